/- TEXTS of mine, merged. -/
import Derived.Test.YtmgpgbfgemebbaaGreatDoorM0
import Derived.Test.YtmgpgbfgemebbaaGreatDoorM10
import Derived.Test.YtmgpgbfgemebbaaGreatDoorM11
import Derived.Test.YtmgpgbfgemebbaaGreatDoorM12
import Derived.Test.YtmgpgbfgemebbaaGreatDoorM13
import Derived.Test.YtmgpgbfgemebbaaGreatDoorM14
import Derived.Test.YtmgpgbfgemebbaaGreatDoorM5
import Derived.Test.YtmgpgbfgemebbaaGreatDoorM6
import Derived.Test.YtmgpgbfgemebbaaGreatDoorM8
import Derived.Test.YtmgpgbfgemebbaaGreatDoorM4
set_option linter.all false
set_option maxRecDepth 100000
set_option maxHeartbeats 16000000
namespace Go.Proofs.YtmgpgbfgemebbaaGreatDoor
open Go.RowKit Go.Own
namespace Tre
def aD (S:Tre)(o:Opm)(ds:List Int):Ans×Tre :=
 if o.aa=1 then S.aw o.ag o.af
 else if o.aa=2 then S.close o.fd
 else if o.aa=3 then S.read 3 o.fd o.n o.off
 else if o.aa=4 then S.write 4 o.fd o.off ds
 else if o.aa=5 then S.read 5 o.fd o.n o.off
 else if o.aa=6 then S.write 6 o.fd o.off ds
 else if o.aa=7 then S.aG o.fd o.n o.off
 else if o.aa=8 then S.trunc o.fd o.off
 else if o.aa=9 then S.aF o.ag
 else if o.aa=10 then S.remove 10 o.ag
 else if o.aa=11 then S.remove 11 o.ag
 else if o.aa=12 then S.link o.ag o.aj
 else if o.aa=13 then S.symlink o.ag o.aj
 else if o.aa=14 then(S.list 14 o.ag,S)
 else if o.aa=15 then S.rename o.ag o.aj
 else if o.aa=16 then(S.stat o.ag true,S)
 else if o.aa=17 then(S.stat o.ag false,S)
 else if o.aa=18 then(S.list 18 o.ag,S)
 else if o.aa=19 then(S.lasts o.fd,S)
 else if o.aa=20 then(S.lasts o.fd,S)
 else if o.aa=21 then(eQ 0,S)
 else if o.aa=22 then(if 0≤o.n then eQ 0 else eQ 2,S)
 else if o.aa=23 then(if 0≤o.n then eQ 0 else eQ 2,S)
 else(eQ 2,S)
end Tre
def li (a:Ans):Prop:=a.data = []∧a.ab = []
theorem gN (e:Int):li (eQ e):=⟨rfl,rfl⟩
variable (S:Tre)
theorem lu (s:Spt)(fl:Int):li (S.ar s fl).1:=by
 unfold Tre.ar;exact zc7
theorem nC (p:Str)(fl:Int):li (S.aw p fl).1:=by
 unfold Tre.aw;split
 ·exact gN _
 ·split
  ·split
   ·exact gN _
   ·split
    ·exact gN _
    ·split
     ·split
      ·exact gN _
      ·exact lu S _ _
     ·exact lu S _ _
  ·split
   ·exact gN _
   ·exact lu S _ _
theorem o6 (fd:Int):li (S.close fd).1:=by unfold Tre.close;split <;> exact gN _
theorem le (k fd n off:Int):(S.read k fd n off).1.ab = []:=by
 unfold Tre.read;dsimp only;split
 ·rfl
 ·split <;> rfl
theorem j9 (k fd off:Int)(ds:List Int):li (S.write k fd off ds).1:=by
 unfold Tre.write;dsimp only;by_cases h1:(S.file fd true).2≠0
 ·rw[if_pos h1];exact gN _
 rw[if_neg h1];by_cases h2:k=6∧off<0
 ·rw[if_pos h2];exact gN _
 rw[if_neg h2];generalize (if k=6 then off else if fc (S.file fd true).1.af 8≠0 then((S.at_ (S.file fd true).1.ae).data.length:Int) else(S.file fd true).1.off)=o;exact zc7
theorem nH (fd n off:Int):li (S.aG fd n off).1:=by
 unfold Tre.aG;dsimp only;by_cases h1:(S.file fd false).2≠0
 ·rw[if_pos h1];exact gN _
 rw[if_neg h1];generalize (if n=1 then(S.file fd false).1.off else if n=2 then((S.at_ (S.file fd false).1.ae).data.length:Int) else 0)=f;exact zc7
theorem md (fd off:Int):li (S.trunc fd off).1:=by
 unfold Tre.trunc;dsimp only;exact zcg
theorem mn (p:Str):li (S.aF p).1:=by unfold Tre.aF;dsimp only;split <;> exact gN _
theorem jD (k:Int)(p:Str):li (S.remove k p).1:=by
 unfold Tre.remove;split
 ·exact gN _
 ·split
  ·exact gN _
  ·exact zcg
theorem ng (p q:Str):li (S.link p q).1:=by
 unfold Tre.link;exact zcg
theorem kX (p q:Str):li (S.symlink p q).1:=by
 unfold Tre.symlink;split
 ·exact gN _
 ·split <;> exact gN _
theorem lD (p q:Str):li (S.rename p q).1:=by
 unfold Tre.rename;by_cases h:(fx p).2.2≠0
 ·exact zb2
 rw[if_neg h];clear h;by_cases h:(fx q).2.2≠0
 ·exact zb2
 rw[if_neg h];clear h;by_cases h:(S.place p).2≠0
 ·exact zb2
 rw[if_neg h];clear h;by_cases h:(S.place p).1.ae=0
 ·exact zb2
 rw[if_neg h];clear h;by_cases h:(S.place q).2≠0
 ·exact zb2
 rw[if_neg h];clear h;dsimp only;generalize (S.place p).1=s;generalize (S.place q).1=t;by_cases h:(S.at_ s.ae).aa=2∧S.within t.dir s.ae=true
 ·exact zb2
 rw[if_neg h];clear h;by_cases h:(S.at_ s.ae).aa=2∧S.deep s.ae (S.way t.dir ++ [t.name])=true
 ·exact zb2
 rw[if_neg h];clear h;by_cases h:t.ae=s.ae
 ·exact zb2
 rw[if_neg h];clear h;by_cases h:t.ae≠0∧(S.at_ s.ae).aa=2∧(S.at_ t.ae).aa≠2
 ·exact zb2
 rw[if_neg h];clear h;by_cases h:t.ae≠0∧(S.at_ s.ae).aa=2∧0<(S.at_ t.ae).ab.length
 ·exact zb2
 rw[if_neg h];clear h;by_cases h:t.ae≠0∧(S.at_ s.ae).aa≠2∧(S.at_ t.ae).aa=2
 ·exact zb2
 rw[if_neg h];exact gN _
theorem lV (p:Str)(fo:Bool):li (S.stat p fo):=by unfold Tre.stat;dsimp only;split <;> exact⟨rfl,rfl⟩
theorem kS (fd:Int):li (S.lasts fd):=by unfold Tre.lasts;split <;> exact gN _
theorem lN (n:Int):li (if 0≤n then eQ 0 else eQ 2):=by split <;> exact gN _
theorem gE {w:World}{L:List HP}{a:Ans}(ha:li a)(h:Has w L):Has w (Bytes eS a.data::Strs eS a.ab::L):=by
 rw[ha.1,ha.2];exact(h.al gx 1).al _ 1
theorem kM {w:World}{L:List HP}{a:Ans}{dv:Value}(ha:a.ab = [])(h:Has w (Bytes dv a.data::L)):Has w (Bytes dv a.data::Strs eS a.ab::L):=by
 rw[ha];exact(h.al gx 1).re 2 [1,0]
theorem xe:∀ i:Fin 64,fc (i.val:Int) 4≠0→fc (i.val:Int) 12≠0:=by decide +kernel
theorem DM {fl:Int}(h0:0≤fl)(h1:fl<64):fc fl 4≠0→fc fl 12≠0:=by
 have:=xe ⟨fl.toNat,by omega⟩
 rwa [show ((fl.toNat:Nat):Int)=fl by omega] at this
variable {S} {rk:Int→Nat} {k:Nat}
theorem Gd.dA (h:Gd S rk k)(p:Str)(fl:Int):∃ rk',Gd (S.aw p fl).2 rk' (k+1):=by
 by_cases hb:0≤fl∧fl<64
 ·exact h.aw p fl (DM hb.1 hb.2)
 ·unfold Tre.aw;rw[if_pos (by omega)];exact zbg
theorem Gd.aD (h:Gd S rk k)(o:Opm)(ds:List Int)(hp:o.ag.length≤100000):∃ rk',Gd (S.aD o ds).2 rk' (k+1):=by
 have hm:=h.mono (Nat.le_succ k);unfold Tre.aD;by_cases h1:o.aa=1
 ·rw[if_pos h1];exact h.dA _ _
 rw[if_neg h1];clear h1;by_cases h1:o.aa=2
 ·rw[if_pos h1];exact⟨rk,hm.close _⟩
 rw[if_neg h1];clear h1;by_cases h1:o.aa=3
 ·rw[if_pos h1];exact⟨rk,hm.read _ _ _ _⟩
 rw[if_neg h1];clear h1;by_cases h1:o.aa=4
 ·rw[if_pos h1];exact⟨rk,hm.write _ _ _ _⟩
 rw[if_neg h1];clear h1;by_cases h1:o.aa=5
 ·rw[if_pos h1];exact⟨rk,hm.read _ _ _ _⟩
 rw[if_neg h1];clear h1;by_cases h1:o.aa=6
 ·rw[if_pos h1];exact⟨rk,hm.write _ _ _ _⟩
 rw[if_neg h1];clear h1;by_cases h1:o.aa=7
 ·rw[if_pos h1];exact⟨rk,hm.aG _ _ _⟩
 rw[if_neg h1];clear h1;by_cases h1:o.aa=8
 ·rw[if_pos h1];exact⟨rk,hm.trunc _ _⟩
 rw[if_neg h1];clear h1;by_cases h1:o.aa=9
 ·rw[if_pos h1];exact h.aF _
 rw[if_neg h1];clear h1;by_cases h1:o.aa=10
 ·rw[if_pos h1];exact⟨rk,hm.remove (.inl rfl) _⟩
 rw[if_neg h1];clear h1;by_cases h1:o.aa=11
 ·rw[if_pos h1];exact⟨rk,hm.remove (.inr rfl) _⟩
 rw[if_neg h1];clear h1;by_cases h1:o.aa=12
 ·rw[if_pos h1];exact h.link _ _
 rw[if_neg h1];clear h1;by_cases h1:o.aa=13
 ·rw[if_pos h1];exact h.symlink _ _ hp
 rw[if_neg h1];clear h1;by_cases h1:o.aa=14
 ·rw[if_pos h1];exact⟨rk,hm⟩
 rw[if_neg h1];clear h1;by_cases h1:o.aa=15
 ·rw[if_pos h1];exact h.rename _ _
 rw[if_neg h1];clear h1;refine⟨rk,?_⟩;split
 ·exact hm
 split
 ·exact hm
 split
 ·exact hm
 split
 ·exact hm
 split
 ·exact hm
 split
 ·exact hm
 split
 ·exact hm
 split
 ·exact hm
 exact hm
theorem GK (q:Nat)(o:Opm)(po:Option Addr)(co:Nat)(ds:List Int)(mx:Int)(w:World)(L:List HP)(hg:Gd S rk k)(hk:k<100000)(hM:MxL mx L)(hp:o.ag.length≤100000)(hd:o.aj.length≤100000)(ho:o.off≤9223372036854775807)(hds:ds.length≤100000)
  (hrd:∀ w',Has w' L→Rd w' (.slice po ds.length co) 1 ds.length (bc ds)) (hO:Has w (Trc q S::L)) :
  zCl 16 #[.pointer (some ⟨q,0,none⟩),opV o (.slice po ds.length co)] w fun e w'=>∃ dv nv,e=.returned (fL (S.aD o ds).1 dv nv)∧Has w' (Bytes dv (S.aD o ds).1.data::Strs nv (S.aD o ds).1.ab::Trc q (S.aD o ds).2::L)∧Keep w w':=by
 have hk9:k<900000:=by omega
 have hdl:∀ n x,fnd S.ac n=some x→x.data.length≤100000∧x.ab.length≤1000000:=fun n x hx=>⟨(hg.ax hx).size.1,by have:=(hg.ax hx).size.2.2.1;omega⟩
 have hlk:∀ n x,fnd S.ac n=some x→0≤x.ah∧x.ah<1000000:=fun n x hx=>by have:=(hg.ax hx).size;omega
 obtain⟨aa,fd,n,off,af,ag,aj⟩:=o;dsimp only at hp hd ho;unfold Tre.aD;dsimp only;have Ci:(S.place ag).2=0→(S.place ag).1.ae≠0→mR S (S.place ag).1:=fun h0 hn=>(hg.cG hk9 ag h0 hn).1;have xY:(S.fresh aj).2=0→nN S (S.fresh aj).1:=fun h0=>by
  obtain⟨h1,_,h3⟩:=ky h0;rw[h3];exact hg.dG hk9 aj h1
 by_cases h1:aa=1
 ·subst h1;rw[if_pos rfl];refine(Cr q S fd n off af ag aj _ w L rk mx hg.wk hg.wy (hg.eL hk9) hM hp (fun h0=>(hg.find_ok ag true h0).2 rfl) hO).mono ?_;rintro e w' ⟨rfl,h2,h3⟩;exact⟨_,_,rfl,gE (nC S _ _) h2,h3⟩
 rw[if_neg h1];by_cases h2:aa=2
 ·subst h2;rw[if_pos rfl];refine(BM q S fd n off af ag aj _ w L (fun h0=>?_) hO).mono ?_
  ·unfold Tb.cls at h0 ⊢;cases hl:Tb.look S.ak fd with
   | none=>rw[hl] at h0;simp at h0
   | some s=>exact hg.op.there fd s hl
  ·rintro e w' ⟨rfl,h2,h3⟩;exact⟨_,_,rfl,gE (o6 S _) h2,h3⟩
 rw[if_neg h2];by_cases h3:aa=3
 ·subst h3;rw[if_pos rfl];refine(CV q S fd n off af ag aj _ w L hg.op ho hO).mono ?_;rintro e w' ⟨dv,rfl,h2,h3⟩;exact⟨_,_,rfl,kM (le S _ _ _ _) h2,h3⟩
 rw[if_neg h3];by_cases h4:aa=4
 ·subst h4;rw[if_pos rfl];refine(sA q S fd n off af ag aj po co ds w L hg.op ho hds hrd hO).mono ?_;rintro e w' ⟨dv,rfl,h2,h3⟩;exact⟨_,_,rfl,kM (j9 S _ _ _ _).2 h2,h3⟩
 rw[if_neg h4];by_cases h5:aa=5
 ·subst h5;rw[if_pos rfl];refine(CQ q S fd n off af ag aj _ w L hg.op ho hO).mono ?_;rintro e w' ⟨dv,rfl,h2,h3⟩;exact⟨_,_,rfl,kM (le S _ _ _ _) h2,h3⟩
 rw[if_neg h5];by_cases h6:aa=6
 ·subst h6;rw[if_pos rfl];refine(zT q S fd n off af ag aj po co ds w L hg.op ho hds hrd hO).mono ?_;rintro e w' ⟨dv,rfl,h2,h3⟩;exact⟨_,_,rfl,kM (j9 S _ _ _ _).2 h2,h3⟩
 rw[if_neg h6];by_cases h7:aa=7
 ·subst h7;rw[if_pos rfl];refine(D9 q S fd n off af ag aj _ w L hg.op hO).mono ?_;rintro e w' ⟨dv,rfl,h2,h3⟩;exact⟨_,_,rfl,kM (nH S _ _ _).2 h2,h3⟩
 rw[if_neg h7];by_cases h8:aa=8
 ·subst h8;rw[if_pos rfl];refine(BG q S fd n off af ag aj _ w L hg.op hO).mono ?_;rintro e w' ⟨dv,rfl,h2,h3⟩;exact⟨_,_,rfl,kM (md S _ _).2 h2,h3⟩
 rw[if_neg h8];by_cases h9:aa=9
 ·subst h9;rw[if_pos rfl];refine(vO q S fd n off af ag aj _ w L rk mx hg.wk hg.wy (hg.eL hk9) hM hp hO).mono ?_;rintro e w' ⟨rfl,h2,h3⟩;exact⟨_,_,rfl,gE (mn S _) h2,h3⟩
 rw[if_neg h9];by_cases h10:aa=10
 ·subst h10;rw[if_pos rfl];refine(Df q S fd n off af ag aj _ w L rk mx hg.wk hg.wy hM hp Ci hO).mono ?_;rintro e w' ⟨rfl,h2,h3⟩;exact⟨_,_,rfl,gE (jD S _ _) h2,h3⟩
 rw[if_neg h10];by_cases h11:aa=11
 ·subst h11;rw[if_pos rfl];refine(yT q S fd n off af ag aj _ w L rk mx hg.wk hg.wy hM hp Ci hO).mono ?_;rintro e w' ⟨rfl,h2,h3⟩;exact⟨_,_,rfl,gE (jD S _ _) h2,h3⟩
 rw[if_neg h11];by_cases h12:aa=12
 ·subst h12;rw[if_pos rfl];refine(Fj q S fd n off af ag aj _ w L rk mx hg.wk hg.wy hM hp hd hlk xY hO).mono ?_;rintro e w' ⟨rfl,h2,h3⟩;exact⟨_,_,rfl,gE (ng S _ _) h2,h3⟩
 rw[if_neg h12];by_cases h13:aa=13
 ·subst h13;rw[if_pos rfl];refine(xa q S fd n off af ag aj _ w L rk mx hg.wk hg.wy hM hp hd (hg.eL hk9) xY hO).mono ?_;rintro e w' ⟨rfl,h2,h3⟩;exact⟨_,_,rfl,gE (kX S _ _) h2,h3⟩
 rw[if_neg h13];by_cases JM:aa=14
 ·subst JM;rw[if_pos rfl];exact tW q S fd n off af ag aj _ w L mx hg.wk hM hp hdl hO
 rw[if_neg JM];by_cases h15:aa=15
 ·subst h15;rw[if_pos rfl];refine(zf q S fd n off af ag aj _ w L rk mx hg.wk hg.wy hM hp hd (hg.cG hk9 ag) (fun h0=>⟨hg.dG hk9 aj h0,(hg.ay aj h0).name.2.1,fun hn=>(hg.cG hk9 aj h0 hn).1⟩) hg.cy hg.bR hO).mono ?_;rintro e w' ⟨rfl,h2,h3⟩;exact⟨_,_,rfl,gE (lD S _ _) h2,h3⟩
 rw[if_neg h15];by_cases h16:aa=16
 ·subst h16;rw[if_pos rfl];refine(ud q S fd n off af ag aj _ w L mx hg.wk hM hp hdl hO).mono ?_;rintro e w' ⟨rfl,h2,h3⟩;exact⟨_,_,rfl,gE (lV S _ _) h2,h3⟩
 rw[if_neg h16];by_cases h17:aa=17
 ·subst h17;rw[if_pos rfl];refine(CX q S fd n off af ag aj _ w L mx hg.wk hM hp hdl hO).mono ?_;rintro e w' ⟨rfl,h2,h3⟩;exact⟨_,_,rfl,gE (lV S _ _) h2,h3⟩
 rw[if_neg h17];by_cases h18:aa=18
 ·subst h18;rw[if_pos rfl];exact xA q S fd n off af ag aj _ w L mx hg.wk hM hp hdl hO
 rw[if_neg h18];by_cases h19:aa=19
 ·subst h19;rw[if_pos rfl];refine(B9 q S fd n off af ag aj _ w L hO).mono ?_;rintro e w' ⟨rfl,h2,h3⟩;exact⟨_,_,rfl,gE (kS S _) h2,h3⟩
 rw[if_neg h19];by_cases h20:aa=20
 ·subst h20;rw[if_pos rfl];refine(sE q S fd n off af ag aj _ w L hO).mono ?_;rintro e w' ⟨rfl,h2,h3⟩;exact⟨_,_,rfl,gE (kS S _) h2,h3⟩
 rw[if_neg h20];by_cases h21:aa=21
 ·subst h21;rw[if_pos rfl];refine(ES q S fd n off af ag aj _ w L hO).mono ?_;rintro e w' ⟨rfl,h2,h3⟩;exact⟨_,_,rfl,gE (gN _) h2,h3⟩
 rw[if_neg h21];by_cases h22:aa=22
 ·subst h22;rw[if_pos rfl];refine(Fb q S fd n off af ag aj _ w L hO).mono ?_;rintro e w' ⟨rfl,h2,h3⟩;exact⟨_,_,rfl,gE (lN _) h2,h3⟩
 rw[if_neg h22];by_cases h23:aa=23
 ·subst h23;rw[if_pos rfl];refine(Fu q S fd n off af ag aj _ w L hO).mono ?_;rintro e w' ⟨rfl,h2,h3⟩;exact⟨_,_,rfl,gE (lN _) h2,h3⟩
 rw[if_neg h23];refine(CJ q S aa fd n off af ag aj _ w L (by omega) hO).mono ?_;rintro e w' ⟨rfl,h2,h3⟩;exact⟨_,_,rfl,gE (gN _) h2,h3⟩
end Go.Proofs.YtmgpgbfgemebbaaGreatDoor
namespace Go.Proofs.YtmgpgbfgemebbaaGreatDoor
open Go.RowKit Go.Own
def tre0:Tre:=⟨[(1,⟨2,[],[],[],0,1,0⟩)],1,List.replicate 16 Tb.none4⟩
theorem F8 (w:World)(L:List HP)(hO:Has w L):zCl 13 #[] w fun e w'=>∃ q,e=.returned (.pointer (some ⟨q,0,none⟩))∧Has w' (Trc q tre0::L)∧Keep w w':=by
 have h1:=(Mk.made (Mk.made hO kInt vPtr) kStr vInt).alloc (.cells #[.int .i64 2,.slice none 0 0,.slice none 0 0,.map (some (w.alloc (.map #[] 0)).heap.size),.int .i64 0,.int .i64 1,.int .i64 0] 82);have e1:(w.alloc (.map #[] 0)).heap.size=w.heap.size+1:=by show (Array.push _ _).size=_;rw[Array.size_push]
 have e2:((w.alloc (.map #[] 0)).alloc (.map #[] 0)).heap.size=w.heap.size+1+1:=by show (Array.push _ _).size=_;rw[Array.size_push,e1]
 rw[e2,e1] at h1;have eT:=hid (h1.re 3 [2,0,1]);have ff:=hid ((((Keep.refl w).alloc (.map #[] 0)).alloc (.map #[] 0)).alloc (.cells #[.int .i64 2,.slice none 0 0,.slice none 0 0,.map (some (w.heap.size+1)),.int .i64 0,.int .i64 1,.int .i64 0] 82));have hmm:=@run_makeMap Tryz.prog;clear h1 hO e1 e2;go_enter Tryz.func13,Tryz.ntmps13
 go_wp2_with (refine q7 eT.out (by decide) tNo lq rfl _ _ _ rfl rfl 1 (ts 1 (by decide) (by decide)) rfl (some (w.heap.size+1+1)) trivial rfl ?_;intro w2 h2 k2;simp only[Act.put])
 refine(EP w2 _ h2).mono ?_;rintro e w3 ⟨f,rfl,h3,k3⟩;have eW:=hid h3;have fH:=hid ((ff.out.trans k2).trans k3);clear h2 k2 h3 k3 eT ff;try dsimp only
 go_wp2_with fail
 go_ret
 refine⟨w3.heap.size,rfl,?_,fH.out.alloc _⟩;have h4:=(eW.out.alloc (.cells (gF w.heap.size f 1) 87))
 refine eY.2 ⟨w.heap.size,f,[(1,w.heap.size+1+1,⟨2,[],[],[],0,1,0⟩)],⟨rfl,by simp[tre0]⟩,fQ.2 ?_⟩;have h5:=(h4.re 5 [3,4,0,1,2])
 have h6:=((h5.al 4 1).al 5 1).re 7 [2,0,1,3,4,5,6];have h7:Has _ (Ndc (w.heap.size+1+1) ⟨2,[],[],[],0,1,0⟩::_):=rK (by show (2:Int)≠3;decide) ⟨.slice none 0 0,.slice none 0 0,some (w.heap.size+1),fun _=>⟨_,rfl⟩,h6⟩;exact h7.re 4 [1,3,2,0]
theorem vP (q:Nat)(S:Tre)(p:Str)(mx:Int)(w:World)(L:List HP)(hW:Wk S)(hM:MxL mx L)(hp:p.length≤100000)(hO:Has w (Trc q S::L)) :
  zCl 20 #[.pointer (some ⟨q,0,none⟩),sV p] w fun e w'=>e=.returned (.int .i64 (S.find p false).1.ae)∧Has w' (Trc q S::L)∧Keep w w':=by
 have HF:=hid (o4 q S p false mx w L hW hM hp hO);generalize S.find p false=R at *;obtain⟨s,e⟩:=R;dsimp only at *;clear hO hM hW;go_enter Tryz.func20,Tryz.ntmps20
 go_wp2_with fail
 refine st (HF.out) (Keep.refl w) fun w1 eT ff=>?_;try dsimp only
 unfold spV spC;have hc:=(eT.out.alloc (.cells (spC s) 102)).cells 0;go_wp2_with fail
 go_ret
 exact⟨rfl,(eT.out.alloc (.cells (spC s) 102)).drop,ff.out.alloc _⟩
abbrev nF:Str := [102]
abbrev pF:Str := [47,102]
def ML:Nod:=⟨2,[],[],[],0,1,0⟩
def Ga:Nod:=⟨2,[],[],[(nF,2)],1,1,0⟩
def Jq (d:List Int)(wr:List Bool):Nod:=⟨1,d,wr,[],0,1,0⟩
def trF (d:List Int)(wr:List Bool)(T:List Tb.Slot):Tre:=⟨[(1,Ga),(2,Jq d wr)],2,T⟩
theorem nV:fb [47]=([],0):=by decide +kernel
theorem xV (S:Tre)(fo:Bool):S.find [47] fo=(⟨1,0,[]⟩,0):=by
 unfold Tre.find;rw[nV,if_neg (by simp),Tre.walk]
section
variable {d:List Int} {wr:List Bool} {T:List Tb.Slot}
def LJ (T:List Tb.Slot):Prop:=∀ s∈T,s.on=true→s.ae=2∧0≤s.off∧s.off≤2000000000000
end
def ND (s:Str):Prop:=kZ s∧s≠[46]∧(0:UInt8)∉s
theorem En {s:Str}(h:(47:UInt8)∉s):spl s = [s]:=by
 induction s with
 | nil=>rfl
 | cons c l ih =>
  have h1:c≠47:=fun e=>h (by rw[e];exact List.mem_cons_self);rw[spl,if_neg h1,ih fun hm=>h (List.mem_cons_of_mem _ hm)]
theorem lB {s:Str}{c:UInt8}(h:c∉s):Lib.indexByte s c = -1:=by
 induction s with
 | nil=>rfl
 | cons b l ih =>
  have h1:(b==c)=false:=by
   simp only[beq_eq_false_iff_ne,ne_eq];rintro rfl;exact h List.mem_cons_self
  rw[Lib.indexByte,h1,ih fun hm=>h (List.mem_cons_of_mem _ hm)];rfl
theorem s8 {s:Str}(h:(0:UInt8)∉s):jq s=false:=by
 unfold jq;rw[lB h];rfl
theorem uH (s:Str):kN (47::s)=true:=by
 unfold kN Lib.hasPrefix;simp
theorem Lf (S:Tre):S.way 1 = []:=ki (.inl rfl)
variable {S:Tre} {rk:Int→Nat} {k:Nat}
theorem gd0:Gd tre0 (fun _=>0) 0 where
 x:={
  keys:=by decide
  has1:=⟨_,rfl⟩
  rk1:=rfl
  rk20:=fun _=>by show 0≤20;omega
  zne:=by decide
  zero:=rfl
  ax:=fun n x hx=>by
   have h1:n=1∧x=⟨2,[],[],[],0,1,0⟩:=by
    have e:tre0.ac = [(1,⟨2,[],[],[],0,1,0⟩)]:=rfl;rw[e,jC] at hx;by_cases h:(1:Int)=n
    ·rw[if_pos h] at hx;cases hx;exact⟨h.symm,rfl⟩
    ·rw[if_neg h] at hx;cases hx
   obtain⟨rfl,rfl⟩:=h1;exact⟨.inr (.inl rfl),fun h=>absurd rfl h,by simp,List.nodup_nil,⟨by simp,by simp,by simp,by simp,by simp,by simp,by simp⟩,fun _=>⟨rfl,rfl,rfl,by decide⟩,fun _ h=>absurd rfl h,fun _ h=>absurd rfl h,fun _ _ h=>absurd rfl h⟩}
 num:=fun n x hx=>by
  have e:tre0.ac = [(1,⟨2,[],[],[],0,1,0⟩)]:=rfl;rw[e,jC] at hx;by_cases h:(1:Int)=n
  ·subst h;exact⟨by omega,by show (1:Int)≤1;omega⟩
  ·rw[if_neg h] at hx;cases hx
 last:=by show (1:Int)≤_;omega
 many:=by show 1≤1;omega
 tab16:=rfl
 opn:=fun fd s hs=>by
  exfalso;obtain⟨j,hj,-,e,hon⟩:=Tb.look_in rfl hs;have:∀ s∈tre0.ak,s.on=false:=by decide
  rw[this s (by rw[←e];exact List.getElem_mem _)] at hon;cases hon
end Go.Proofs.YtmgpgbfgemebbaaGreatDoor
namespace Go.Proofs.YtmgpgbfgemebbaaGreatDoor
open Go.RowKit Go.Own
def fm:List Str→Str
 | [] => []
 | p::ps=>(47::p)++fm ps
theorem lQ (a b:List Str):fm (a++b)=fm a++fm b:=by
 induction a with
 | nil=>rfl
 | cons x a ih=>simp only[List.cons_append,fm,ih,List.append_assoc]
theorem sf {ps:List Str}(h:ps≠[]):fm ps≠[]:=by
 cases ps with
 | nil=>exact absurd rfl h
 | cons p ps=>simp[fm]
theorem pr (r:List Str):Lib.joinTail [47] r=fm r:=by
 induction r with
 | nil=>rfl
 | cons x r ih =>
  unfold Lib.joinTail at ih ⊢;rw[List.map_cons,List.flatten_cons,ih];rfl
theorem lA {ps:List Str}(h:ps≠[]):ii ps=fm ps:=by
 cases ps with
 | nil=>exact absurd rfl h
 | cons p ps =>
  show 47::kw (p::ps)=_;unfold kw;rw[Lib.join_cons,pr];rfl
theorem wT:ii [] = [47]:=rfl
theorem qr (ps:List Str):ii ps=orM (fm ps):=by
 unfold orM;cases ps with
 | nil=>rfl
 | cons p ps=>rw[if_neg (sf (by simp)),lA (by simp)]
theorem xh (ps:List Str):(fm ps).length=(ps.map fun p=>p.length+1).sum:=by
 induction ps with
 | nil=>rfl
 | cons p ps ih=>simp only[fm,List.length_append,List.length_cons,List.map_cons,List.sum_cons,ih]
theorem vx {a:Str}(h:(47:UInt8)∉a)(l:Str):spl (a++47::l)=a::spl l:=by
 induction a with
 | nil=>rw[List.nil_append,spl,if_pos rfl]
 | cons c a ih =>
  have h1:c≠47:=fun e=>h (by rw[e];exact List.mem_cons_self);rw[List.cons_append,spl,if_neg h1,ih fun hm=>h (List.mem_cons_of_mem _ hm)]
theorem nG:∀ (ps:List Str) (a:Str),(47:UInt8)∉a→(∀ p∈ps,(47:UInt8)∉p)→spl (a++fm ps)=a::ps
 | [],a,ha,_=>by rw[fm,List.append_nil,En ha]
 | p::ps,a,ha,h=>by
  show spl (a++(47::(p++fm ps)))=_;rw[vx ha,nG ps p (h p List.mem_cons_self) fun q hq=>h q (List.mem_cons_of_mem _ hq)]
theorem BI {p:Str}(h:lw p):hU p=false:=by
 unfold hU;simp only[Bool.or_eq_false_iff,beq_eq_false_iff_ne,ne_eq];exact⟨h.1,h.2.1⟩
theorem pC:∀ (ps acc:List Str),(∀ p∈ps,lw p)→fR ps acc=some (acc++ps)
 | [],acc,_=>by rw[fR,List.append_nil]
 | p::ps,acc,h=>by
  have h1:=h p List.mem_cons_self;have h2:¬ 24<p.length:=by have:=h1.2.2.1;omega
  rw[fR,BI h1,if_neg (by decide),if_neg h2,pC ps _ fun q hq=>h q (List.mem_cons_of_mem _ hq),List.append_assoc];rfl
def Pz (p:Str):Prop:=lw p∧(0:UInt8)∉p
theorem rJ {ps:List Str}(h:∀ p∈ps,Pz p):gj (fm ps)=(ps,decide (ps.length≤20)):=by
 have h1:fR (jx (fm ps)) []=some ps:=by
  have e:=nG ps [] (by simp) fun p hp=>(h p hp).1.2.2.2;rw[List.nil_append] at e;rw[jX,e,fR,if_pos (show hU []=true from rfl),pC ps [] fun p hp=>(h p hp).1];rfl
 unfold gj;rw[h1]
theorem tQ {ps:List Str}(h:∀ p∈ps,Pz p):(0:UInt8)∉fm ps:=by
 induction ps with
 | nil=>simp[fm]
 | cons p ps ih =>
  have h1:=(h p List.mem_cons_self).2;have h2:=ih fun q hq=>h q (List.mem_cons_of_mem _ hq);simp only[fm,List.cons_append,List.mem_cons,List.mem_append,not_or];exact⟨by decide,h1,h2⟩
theorem wE {ps:List Str}(h:ps≠[]):kN (fm ps)=true:=by
 cases ps with
 | nil=>exact absurd rfl h
 | cons p ps=>exact uH _
theorem rB {ps:List Str}(h:∀ p∈ps,Pz p)(hne:ps≠[]):fb (fm ps)=if 20<ps.length∨200<(fm ps).length then([],11) else(ps,0):=by
 unfold fb;rw[wE hne,s8 (tQ h),rJ h];by_cases h1:20<ps.length∨200<(fm ps).length
 ·rw[if_pos h1,if_neg (by decide),if_pos ?_];simp only[Bool.or_eq_true,Bool.not_eq_true',decide_eq_false_iff_not,decide_eq_true_eq];omega
 ·rw[if_neg h1,if_neg (by decide),if_neg ?_];simp only[Bool.or_eq_true,Bool.not_eq_true',decide_eq_false_iff_not,decide_eq_true_eq];omega
theorem rp {ps:List Str}(h:∀ p∈ps,Pz p)(h1:ps.length≤20)(h2:(fm ps).length≤200):fb (ii ps)=(ps,0):=by
 by_cases hne:ps = []
 ·subst hne;rw[wT];exact nV
 ·rw[lA hne,rB h hne,if_neg (by omega)]
theorem ro:∀ s:Str,((spl s).map fun p=>p.length+1).sum=s.length+1
 | []=>rfl
 | c::l=>by
  have ih:=ro l;unfold spl;by_cases h:c=47
  ·rw[if_pos h,List.map_cons,List.sum_cons,ih];simp only[List.length_cons,List.length_nil];omega
  ·rw[if_neg h];cases hs:spl l with
   | nil=>exact absurd hs (Av l)
   | cons a t =>
    rw[hs] at ih;simp only[List.map_cons,List.sum_cons,List.length_cons] at ih ⊢;omega
theorem wg:∀ (s:Str),∀ p∈spl s,∀ c∈p,c∈s
 | [],p,hp,c,hc=>by simp[spl] at hp;subst hp;exact hc
 | b::l,p,hp,c,hc=>by
  have ih:=wg l;unfold spl at hp;by_cases h:b=47
  ·rw[if_pos h] at hp;rcases List.mem_cons.1 hp with rfl|hp
   ·cases hc
   ·exact List.mem_cons_of_mem _ (ih p hp c hc)
  ·rw[if_neg h] at hp;cases hs:spl l with
   | nil=>exact absurd hs (Av l)
   | cons a t =>
    rw[hs] at hp ih;rcases List.mem_cons.1 hp with rfl|hp
    ·rcases List.mem_cons.1 hc with rfl|hc
     ·exact List.mem_cons_self
     ·exact List.mem_cons_of_mem _ (ih a List.mem_cons_self c hc)
    ·exact List.mem_cons_of_mem _ (ih p (List.mem_cons_of_mem _ hp) c hc)
theorem kV:∀ (ps acc l:List Str),fR ps acc=some l→(l.map fun p=>p.length+1).sum≤(acc.map fun p=>p.length+1).sum+(ps.map fun p=>p.length+1).sum∧∀ p∈l,p∈acc∨p∈ps
 | [],acc,l,h=>by cases h;exact⟨by simp,fun p hp => .inl hp⟩
 | q::ps,acc,l,h=>by
  unfold fR at h;by_cases h1:hU q=true
  ·rw[if_pos h1] at h;obtain⟨h2,h3⟩:=kV ps acc l h;simp only[List.map_cons,List.sum_cons];exact⟨by omega,fun p hp=>(h3 p hp).imp_right fun h=>List.mem_cons_of_mem _ h⟩
  ·rw[if_neg h1] at h;by_cases h4:24<q.length
   ·rw[if_pos h4] at h;cases h
   ·rw[if_neg h4] at h;obtain⟨h2,h3⟩:=kV ps _ l h;simp only[List.map_append,List.sum_append,List.map_cons,List.sum_cons,List.map_nil,List.sum_nil] at h2 ⊢;refine⟨by omega,fun p hp=>?_⟩;rcases h3 p hp with h5|h5
    ·rcases List.mem_append.1 h5 with h6|h6
     ·exact .inl h6
     ·rw[List.mem_singleton.1 h6];exact .inr List.mem_cons_self
    ·exact .inr (List.mem_cons_of_mem _ h5)
theorem lz {s:Str}{c:UInt8}(h:c∈s):0≤Lib.indexByte s c:=by
 induction s with
 | nil=>cases h
 | cons b l ih =>
  rw[Lib.indexByte];by_cases hb:(b==c)=true
  ·rw[if_pos hb];omega
  ·rw[if_neg hb];have hm:c∈l:=by
    rcases List.mem_cons.1 h with rfl|h
    ·simp at hb
    ·exact h
   have:=ih hm;split
   ·rename_i h0;simp at h0;omega
   ·omega
theorem rq {p:Str}(h:(fb p).2=0):(∀ q∈(fb p).1,Pz q)∧(fb p).1.length≤20∧(fm (fb p).1).length≤p.length∧p.length≤200:=by
 have hok:=qW p;have hl:=iU p;unfold fb at *;by_cases h1:(!kN p||jq p)=true
 ·rw[if_pos h1] at h;cases h
 rw[if_neg h1] at h hok hl ⊢;by_cases h2:(!(gj p).2||decide ((200:Int)<p.length))=true
 ·rw[if_pos h2] at h;cases h
 rw[if_neg h2] at h hok hl ⊢;simp only[Bool.or_eq_true,Bool.not_eq_true',not_or,Bool.not_eq_false,Bool.not_eq_true,decide_eq_false_iff_not] at h1 h2;have h0:(0:UInt8)∉p:=fun hm=>by
  have h3:=h1.2;unfold jq at h3;have:=lz hm;simp at h3;omega
 dsimp only at hok hl ⊢;have hp:∀ q∈(gj p).1,q∈spl p:=by
  intro q hq;unfold gj at hq;cases hL:fR (jx p) [] with
  | none=>rw[hL] at hq;cases hq
  | some l =>
   rw[hL] at hq;have h5:=(kV _ _ _ hL).2 q hq;rw[jX] at h5;exact h5.resolve_left (by simp)
 refine⟨fun q hq=>⟨hok q hq,fun hm=>h0 (wg p q (hp q hq) _ hm)⟩,hl,?_,by omega⟩;obtain⟨s,rfl⟩:∃ s,p=47::s:=by
  have h3:=h1.1;unfold kN Lib.hasPrefix at h3;cases p with
  | nil=>simp at h3
  | cons c s =>
   simp at h3;exact⟨s,by rw[←h3]⟩
 unfold gj;cases hL:fR (jx (47::s)) [] with
 | none=>simp[fm]
 | some l =>
  rw[jX,spl,if_pos rfl,fR,if_pos (show hU []=true from rfl)] at hL;have h5:=(kV _ _ _ hL).1;rw[ro] at h5;dsimp only;rw[xh];simpa using h5
theorem sN {p:Str}(h:(fx p).2.2=0):∃ qs nm,fb p=(qs ++ [nm],0)∧nm≠[46,46]∧fx p=(ii qs,nm,0)∧(∀ q∈qs ++ [nm],Pz q)∧(qs ++ [nm]).length≤20∧(fm (qs ++ [nm])).length≤200∧fb (ii qs)=(qs,0):=by
 have hs:(fb p).2=0:=by
  unfold fx at h;by_cases h1:(fb p).2≠0
  ·rw[if_pos h1] at h;exact absurd h h1
  ·exact Classical.not_not.1 h1
 obtain⟨a1,a2,a3,a4⟩:=rq hs;have e:fb p=((fb p).1,0):=by rw[←hs]
 unfold fx at *;rw[hs] at h ⊢;simp only[ne_eq,not_true_eq_false,if_false] at h ⊢;cases hg:(fb p).1.getLast? with
 | none=>rw[hg] at h;cases h
 | some x =>
  rw[hg] at h;simp only at h ⊢;by_cases h2:x = [46,46]
  ·rw[if_pos h2] at h;cases h
  ·rw[if_neg h2];have hd:(fb p).1=(fb p).1.dropLast ++ [x]:=by
    have hne:(fb p).1≠[]:=by intro e0;rw[e0] at hg;cases hg
    rw[List.getLast?_eq_some_getLast hne] at hg;rw[←Option.some.inj hg];exact(List.dropLast_concat_getLast hne).symm
   generalize (fb p).1.dropLast=qs at *;rw[hd] at a1 a2 a3 e;refine⟨qs,x,e,h2,rfl,a1,a2,by omega,rp (fun q hq=>a1 q (List.mem_append_left _ hq)) ?_ ?_⟩
   ·rw[List.length_append] at a2;omega
   ·rw[lQ,List.length_append] at a3;omega
namespace Tre
def goN (S:Tre):Int→List Str→Option Int
 | n,[]=>some n
 | n,p::ps=>match fnd (S.at_ n).ab p with
  | none=>none
  | some c=>goN S c ps
end Tre
theorem Dg (S:Tre)(n:Int)(a b:List Str):S.goN n (a++b)=(S.goN n a).bind fun c=>S.goN c b:=by
 induction a generalizing n with
 | nil=>rfl
 | cons p a ih =>
  rw[List.cons_append,Tre.goN,Tre.goN];cases fnd (S.at_ n).ab p with
  | none=>rfl
  | some c=>exact ih c
theorem tJ {S:Tre}{n c:Int}{ps:List Str}{p:Str}(h:S.goN n (ps ++ [p])=some c):∃ d,S.goN n ps=some d∧fnd (S.at_ d).ab p=some c:=by
 rw[Dg] at h;cases hd:S.goN n ps with
 | none=>rw[hd] at h;cases h
 | some d =>
  rw[hd] at h;refine⟨d,rfl,?_⟩;rw[Option.bind_some,Tre.goN] at h;cases hf:fnd (S.at_ d).ab p with
  | none=>rw[hf] at h;cases h
  | some e=>rw[hf] at h;exact h
variable {S:Tre} {rk:Int→Nat} {k:Nat}
theorem Gd.aT (h:Gd S rk k):∀ (ps:List Str) (n:Int) (x:Nod),fnd S.ac n=some x→∀ c,S.goN n ps=some c→∃ y,fnd S.ac c=some y∧rk n+ps.length≤rk c∧(∀ p∈ps,kZ p)∧(ps≠[]→y.aa=2→y.above≠0∧rk c=rk n+ps.length)
 | [],n,x,hx,c,hc=>by
  cases hc;exact⟨x,hx,by simp,by simp,fun h=>absurd rfl h⟩
 | p::ps,n,x,hx,c,hc=>by
  rw[Tre.goN,fC hx] at hc;cases hf:fnd x.ab p with
  | none=>rw[hf] at hc;cases hc
  | some d =>
   rw[hf] at hc;dsimp only at hc;obtain⟨e1,e2,y,hy,e3⟩:=(h.ax hx).ai _ (fj hf);obtain⟨z,hz,a1,a2,a3⟩:=h.aT ps d y hy c hc;have hr:rk n+1≤rk d:=(h.bR n x hx _ (fj hf)).1;refine⟨z,hz,by simp only[List.length_cons];omega,fun q hq=>?_,fun _ h2=>?_⟩
   ·rcases List.mem_cons.1 hq with rfl|hq
    ·exact e1
    ·exact a2 q hq
   ·by_cases hps:ps = []
    ·subst hps;cases hc;rw[hy] at hz;cases hz;have:=e3 h2;exact⟨by rw[this.1];exact h.aR hx,by have:=this.2;simp only[List.length_cons,List.length_nil];omega⟩
    ·have h4:=a3 hps h2;have hy2:y.aa=2:=Classical.byContradiction fun hk=>by
      have h5:=((h.ax hy).file hk).1;cases ps with
      | nil=>exact hps rfl
      | cons p2 ps =>
       rw[Tre.goN,fC hy,h5] at hc;cases hc
     have h5:=(e3 hy2).2;exact⟨h4.1,by simp only[List.length_cons];dsimp only at h5;omega⟩
theorem Gd.cP (h:Gd S rk k):∀ (r:Nat) (ps:List Str) (n:Int) (x:Nod),ps.length=r→fnd S.ac n=some x→x.aa=2→S.goN 1 ps=some n→S.way n=ps
 | 0,ps,n,x,hl,hx,h2,hc=>by
  have:ps = []:=List.eq_nil_of_length_eq_zero hl;subst this;cases hc;exact Lf S
 | r+1,ps,n,x,hl,hx,h2,hc=>by
  have hne:ps≠[]:=by rintro rfl;cases hl
  obtain⟨qs,p,rfl⟩:∃ qs p,ps=qs ++ [p]:=⟨ps.dropLast,ps.getLast hne,(List.dropLast_concat_getLast hne).symm⟩
  obtain⟨d,hd,hf⟩:=tJ hc;obtain⟨x1,hx1⟩:=h.x.has1;obtain⟨y,hy,_⟩:=h.aT qs 1 x1 hx1 d hd;rw[fC hy] at hf;obtain⟨e1,e2,z,hz,e3⟩:=(h.ax hy).ai _ (fj hf);dsimp only at hz e3;rw[hx] at hz;cases hz;have hab:=(e3 h2).1;have hn1:n≠1:=by
   rintro rfl;have:=((h.ax hx).root rfl).2.1;rw[this] at hab;exact h.aR hy hab.symm
  have ha0:x.above≠0:=by rw[hab];exact h.aR hy
  obtain⟨y',nm,b1,b2,b3,b4,b5⟩:=ke h.wy hx hn1 ha0;rw[hab] at b1 b5;rw[hy] at b1;cases b1;have hnm:nm=p:=by
   have hm:(p,n)∈y.ab.filter fun e=>decide (e.2=n):=List.mem_filter.2 ⟨fj hf,by simp⟩;rw[b2,List.mem_singleton] at hm;exact(Prod.mk.inj hm).1.symm
  have hk2:y.aa=2:=Classical.byContradiction fun hk=>by
   rw[((h.ax hy).file hk).1] at hf;cases hf
  rw[b5,hnm,h.cP r qs d y (by rw[List.length_append] at hl;simpa using hl) hy hk2 hd]
end Go.Proofs.YtmgpgbfgemebbaaGreatDoor
namespace Go.Proofs.YtmgpgbfgemebbaaGreatDoor
open Go.RowKit Go.Own
def gp (s:Str):List Str:=(spl s).filter fun p => !hU p
theorem B5 {a:Str}(h:(47:UInt8)∉a):spl a = [a]:=by
 induction a with
 | nil=>rfl
 | cons c l ih =>
  simp only[List.mem_cons,not_or] at h;rw[spl,if_neg (fun e=>h.1 e.symm),ih h.2]
theorem AI {a:Str}(h:(47:UInt8)∉a):gp a=if hU a=true then [] else [a]:=by
 unfold gp;rw[B5 h,List.filter_cons];cases hU a <;> simp
theorem An {a:Str}(h:(47:UInt8)∉a)(l:Str):gp (a++47::l)=(if hU a=true then [] else [a])++gp l:=by
 unfold gp;rw[vx h,List.filter_cons];cases hU a <;> simp
theorem tp (s:Str):(gp s).length≤s.length+1:=by
 refine Nat.le_trans (List.length_filter_le _ _) ?_;have:=ro s;have h:∀ l:List Str,l.length≤(l.map fun p=>p.length+1).sum:=fun l=>by
  induction l with
  | nil=>simp
  | cons a l ih=>simp only[List.length_cons,List.map_cons,List.sum_cons];omega
 have:=h (spl s);omega
theorem ww (s:Str){f k:Nat}(hf:f≤k)(hk:k≤s.length)(hn:∀ j (hj:j<s.length),f≤j→j<k→s[j]≠47) :
  (k=s.length→gp (s.drop f)=if hU ((s.take k).drop f)=true then [] else [(s.take k).drop f]) ∧
  (∀ h:k<s.length,s[k]=47→gp (s.drop f)=(if hU ((s.take k).drop f)=true then [] else [(s.take k).drop f])++gp (s.drop (k+1))):=by
 have hm:(47:UInt8)∉(s.take k).drop f:=by
  intro h;obtain⟨j,hj,e⟩:=List.getElem_of_mem h;rw[List.getElem_drop,List.getElem_take] at e;rw[List.length_drop,List.length_take] at hj;exact hn (f+j) (by omega) (by omega) (by omega) e
 constructor
 ·rintro rfl;rw[List.take_length] at hm ⊢;exact AI hm
 ·intro h e;have:s.drop f=(s.take k).drop f++47::s.drop (k+1):=by
   rw[←e,←List.drop_eq_getElem_cons h];have h1:=congrArg (List.drop f) (List.take_append_drop k s);rw[List.drop_append,List.length_take,show f-min k s.length=0 by omega,List.drop_zero] at h1;exact h1.symm
  rw[this];exact An hm _
theorem sX (P:ByteArray)(s:Str)(h:sB s=P):∀ k (h1:k<P.size) (h2:k<s.length),P[k]=s[k]:=by
 subst h;intro k h1 h2;show (s.toArray)[k]'_=s[k];simp
theorem Ah (bs:ByteArray):∀ (n i:Nat) (r:List UInt8),bs.size-i=n→ByteArray.toList.loop bs i r=r.reverse++bs.data.toList.drop i:=by
 intro n;have hs:bs.size=bs.data.toList.length:=by show bs.data.size=_;rw[Array.length_toList]
 induction n with
 | zero =>
  intro i r h;rw[ByteArray.toList.loop,if_neg (by omega),List.drop_eq_nil_of_le (by omega),List.append_nil]
 | succ n ih =>
  intro i r h;have hi:i<bs.data.toList.length:=by omega
  have hi2:i<bs.data.size:=by rw[Array.length_toList] at hi;exact hi
  have hg:bs.get! i=bs.data.toList[i]:=by
   show bs.data[i]! = _;rw[getElem!_pos bs.data i hi2,Array.getElem_toList]
  rw[ByteArray.toList.loop,if_pos (by omega),ih (i+1) _ (by omega),List.reverse_cons,List.append_assoc,List.drop_eq_getElem_cons hi,hg,List.cons_append,List.nil_append]
theorem lE (l:Str):(sB l).toList=l:=by
 rw[ByteArray.toList,Ah _ _ 0 [] rfl,List.reverse_nil,List.nil_append,List.drop_zero,jv]
theorem jE (l:Str):(sB l).size=l.length:=by show l.toArray.size=_;simp
theorem Es (l:Str)(f k:Nat):(sB l).extract f k=sB ((l.take k).drop f):=by
 apply ByteArray.ext;simp[sB,ByteArray.data_extract,List.extract_toArray,List.extract_eq_take_drop,List.drop_take]
theorem yI (s:Str)(w:World)(L:List HP)(hs:s.length≤100000)(hO:Has w L) :
  zCl 194 #[sV s] w fun e w'=>∃ v,e=.returned v∧Has w' (Strs v (gp s)::L)∧Keep w w':=by
 have HO:=hid (show Has w (Strs (.slice none 0 0) []::L) from hO.al gx 1);obtain⟨P,hP⟩:∃ P,sB s=P:=⟨_,rfl⟩
 have hsz:P.size=s.length:=by rw[←hP,jE]
 have hP1:(P.size:Int)≤100000:=by omega
 have ql:=hid hsz;have HS:=hid hs;have HP:=hid hP;rw[show sV s=.string P from by rw[←hP]];clear hP hs hsz hO;go_enter Tryz.func194,Tryz.ntmps194
 go_wp2_with fail
 go_loopw [3,4,5] (fun v fr i w'=>∃ (k f:Nat) (acc:List Str),f≤k∧k≤P.size+1∧acc.length≤k∧fr=.int .i64 f∧i=.int .i64 k∧Hid ((k≤P.size→(∀ j (hj:j<s.length),f≤j→j<k→s[j]≠47)∧acc++gp (s.drop f)=gp s)∧(k=P.size+1→acc=gp s))∧Hid (Has w' (Strs v acc::L))∧Hid (Keep w w')) (fun _ _ i _=>P.size+1-(intOf i).toNat)
 case atStart=>exact⟨0,0,[],by omega,by omega,by simp,rfl,rfl,hid ⟨fun _=>⟨fun j _ _ h=>absurd h (by omega),by rw[List.drop_zero];rfl⟩,fun h=>absurd h (by omega)⟩,HO,hid (Keep.refl w)⟩
 case round =>
  clear HO;obtain⟨k,f,acc,hfk,hk,hac,rfl,rfl,HI,HO,HK⟩:=hrel;obtain⟨p3,c3,e3,-⟩:=(Strs.rd HO.out).form;subst e3;have hk0:(0:Int)≤(k:Int):=by omega
  have hf0:(0:Int)≤(f:Int):=by omega
  have hfi:(f:Int)≤(k:Int):=by omega
  by_cases hle:k≤P.size
  ·have hki:(k:Int)≤(P.size:Int):=by omega
   obtain⟨hno,hacc⟩:=HI.out.1 hle;have DF:=hid hno;have Cm:=hid hacc;have yj:=hid hle;have yi:=hid hac;have O3:=hid hfk;clear HI hno hacc hk hac;by_cases hgo:k<P.size∧∀ h:k<s.length,s[k]≠47
   ·obtain⟨hlt,hne⟩:=hgo;have I8:(k:Int)<(P.size:Int):=by omega
    have hch:((P[k].toNat:Int)==47)=false:=by
     have e1:=sX P s HP.out k hlt (by have:=ql.out;omega);have e2:=hne (by have:=ql.out;omega);rw[e1];simp only[beq_eq_false_iff_ne,ne_eq];intro e3;exact e2 (UInt8.toNat_inj.1 (by show _=(47:UInt8).toNat;have:(47:UInt8).toNat=47:=rfl;omega))
    have HI2:=hid (show (k+1≤P.size→(∀ j (hj:j<s.length),f≤j→j<k+1→s[j]≠47)∧acc++gp (s.drop f)=gp s)∧(k+1=P.size+1→acc=gp s) from⟨fun _=>⟨fun j hj h1 h2=>by
     by_cases e:j=k
     ·subst e;exact hne hj
     ·exact DF.out j hj h1 (by omega),Cm.out⟩,fun h=>absurd h (by omega)⟩)
    have gW:=hid hlt;clear hne hle hfk;go_wp2_with fail
    exact⟨⟨k+1,f,acc,by have:=O3.out;omega,by have:=gW.out;omega,by have:=yi.out;omega,rfl,by go_num,HI2,HO,HK⟩,by have:=gW.out;simp[intOf];omega⟩
   ·obtain⟨pc,hpc⟩:∃ pc,(s.take k).drop f=pc:=⟨_,rfl⟩
    have hst:=ww s hfk (by have:=ql.out;omega) DF.out;rw[hpc] at hst;have IP:P.extract f k=sB pc:=by rw[←HP.out,Es,hpc]
    have hpl:pc.length=k-f:=by rw[←hpc,List.length_drop,List.length_take];have:=ql.out;omega
    have HI2:=hid (show ∀ acc',acc'=acc++(if hU pc=true then [] else [pc])→(k+1≤P.size→(∀ j (hj:j<s.length),k+1≤j→j<k+1→s[j]≠47)∧acc'++gp (s.drop (k+1))=gp s)∧(k+1=P.size+1→acc'=gp s) from by
     rintro acc' rfl;have hs1:=ql.out;refine⟨fun h=>⟨fun j hj h1 h2=>absurd h1 (by omega),?_⟩,fun h=>?_⟩
     ·have hlt:k<s.length:=by omega
      have e:s[k]=47:=by
       refine Classical.byContradiction fun hc=>hgo ⟨by omega,fun _=>hc⟩
      rw[List.append_assoc,←hst.2 hlt e];exact Cm.out
     ·rw[←hst.1 (by omega)];exact Cm.out)
    have hcase:((k:Int)<(P.size:Int)∧∃ h:k<P.size,((P[k].toNat:Int)==47)=true)∨¬ (k:Int)<(P.size:Int):=by
     by_cases hlt:k<P.size
     ·refine .inl ⟨by omega,hlt,?_⟩;have h2:k<s.length:=by have:=ql.out;omega
      have e:s[k]=47:=Classical.byContradiction fun hc=>hgo ⟨hlt,fun _=>hc⟩;rw[sX P s HP.out k hlt h2,e];rfl
     ·exact .inr (by omega)
    have HEX:=hid IP;have iY:=hid hpl;clear hgo hst hpc IP hpl DF Cm hle;rcases hcase with ⟨I8,hlt,hch⟩|I8
    all_goals
     by_cases hsk:hU pc=true
     ·have HI3:=hid (HI2.out acc (by rw[if_pos hsk,List.append_nil]));by_cases KH:f<k
      ·have DB:(f:Int)<(k:Int):=by omega
       have Ll:((P.extract f k).toList == [46])=true:=by
        rw[HEX.out,lE];have:pc≠[]:=by intro e;have:=iY.out;rw[e] at this;simp at this;omega
        simpa[hU,this] using hsk
       exact zbR
      ·have DB:¬ (f:Int)<(k:Int):=by omega
       exact zbR
     ·have HI3:=hid (HI2.out (acc ++ [pc]) (by rw[if_neg hsk]));have KH:f<k:=by
       refine Classical.byContradiction fun hc=>hsk ?_;have:pc = []:=List.eq_nil_of_length_eq_zero (by have:=iY.out;omega);rw[this];rfl
      have DB:(f:Int)<(k:Int):=by omega
      have Ll:((P.extract f k).toList == [46])=false:=by
       rw[HEX.out,lE];simp only[beq_eq_false_iff_ne,ne_eq];rintro rfl;exact hsk rfl
      clear hsk HI2;go_wp2_with (at_builtin;refine fS rfl _ _ 36 rfl Tryz.underlying36 iD rfl (.string (P.extract f k)) (HO.out.alloc' (.cells #[.string (P.extract f k)] gx)) rfl 1 _ rfl (by simp) rfl (eU (by have h1:=yi.out;have h2:=yj.out;omega)) (by have h1:=yi.out;have h2:=yj.out;omega) ?_;intro v' w' kC hK')
      have oc:=hid kC;have qy:=hid hK';clear kC hK';go_wp2_with fail
      exact⟨⟨k+1,k+1,acc ++ [pc],by omega,by have:=yj.out;omega,by have:=yi.out;simp;omega,by go_num,by go_num,HI3,hid (by have h:=oc.out;rw[HEX.out] at h;simpa[Strs] using h),hid ((HK.out.alloc _).trans qy.out)⟩,by have:=yj.out;simp[intOf];omega⟩
  ·have hki:¬ (k:Int)≤(P.size:Int):=by omega
   have hfin:=HI.out.2 (by omega);subst hfin;clear HI;go_wp2_with fail
   go_ret
   exact⟨_,rfl,HO.out,HK.out⟩
theorem oV (s:Str):jq s=decide ((0:UInt8)∈s):=by
 unfold jq;by_cases h:(0:UInt8)∈s
 ·rw[decide_eq_true h,decide_eq_true (lz h)]
 ·rw[decide_eq_false h,lB h];rfl
theorem qI (s:Str):kN s=decide (s.head? = some 47):=by
 cases s with
 | nil=>rfl
 | cons c l =>
  show ([47]:List UInt8).isPrefixOf (c::l)=_;by_cases h:c=47
  ·subst h;simp[List.isPrefixOf]
  ·simp[List.isPrefixOf,h,Ne.symm h]
def jz (ps:List Str):Bool:=ps.any fun p=>decide (24<p.length)
theorem mj:∀ (ps acc:List Str),fR ps acc=if jz (ps.filter fun p => !hU p)=true then none else some (acc++ps.filter fun p => !hU p)
 | [],acc=>by simp[fR,jz]
 | p::ps,acc=>by
  rw[fR,List.filter_cons];by_cases h:hU p=true
  ·rw[if_pos h,mj ps acc];simp[h]
  ·have h':hU p=false:=by simpa using h
   rw[if_neg h];by_cases hl:24<p.length
   ·rw[if_pos hl];simp[h',jz,hl]
   ·rw[if_neg hl,mj ps (acc ++ [p])];simp only[h',Bool.not_false,if_true];have e:jz (p::ps.filter fun p => !hU p)=jz (ps.filter fun p => !hU p):=by
     unfold jz;rw[List.any_cons,decide_eq_false hl];rfl
    rw[e,List.append_assoc];rfl
theorem ph (s:Str):gj s=if jz (gp s)=true then([],false) else(gp s,decide ((gp s).length≤20)):=by
 unfold gj;rw[jX,mj];show (match (if jz (gp s)=true then none else some ([]++gp s)) with|none=>([],false)|some l=>(l,decide (l.length≤20)))=_;by_cases h:jz (gp s)=true
 ·rw[if_pos h,if_pos h]
 ·rw[if_neg h,if_neg h];rfl
def gS (ps:List Str):Bool:=jz ps||decide (20<ps.length)
theorem ug (p:Str):fb p=if p.head?≠some 47∨(0:UInt8)∈p then([],2) else if 200<p.length∨gS (gp p)=true then([],11) else(gp p,0):=by
 unfold fb;rw[oV,qI,ph];by_cases h1:p.head?≠some 47∨(0:UInt8)∈p
 ·rw[if_pos h1,if_pos (by rcases h1 with h|h <;> simp[h])]
 ·rw[if_neg h1];simp only[not_or,Decidable.not_not] at h1;rw[if_neg (by simp[h1.1,h1.2])];by_cases h2:jz (gp p)=true
  ·rw[if_pos h2];simp[gS,h2]
  ·rw[if_neg h2];have h2':jz (gp p)=false:=by simpa using h2
   simp only[gS,h2',Bool.false_or];by_cases h3:20<(gp p).length <;> by_cases h4:200<p.length
   ·exact zcv
   ·exact zcv
   ·rw[if_pos (by simp;omega),if_pos (by simp;omega)]
   ·rw[if_neg (by simp;omega),if_neg (by simp;omega)]
theorem th (p:Str):fN p=if p = []∨(0:UInt8)∈p then([],false,2) else if 100<p.length∨gS (gp p)=true then([],false,11) else(gp p,decide (p.head? = some 47),0):=by
 unfold fN;rw[oV,qI,ph];by_cases h1:p = []∨(0:UInt8)∈p
 ·rw[if_pos h1,if_pos (by rcases h1 with h|h <;> simp[h])]
 ·rw[if_neg h1];simp only[not_or] at h1;rw[if_neg (by simp[h1.1,h1.2])];by_cases h2:jz (gp p)=true
  ·rw[if_pos h2];simp[gS,h2]
  ·rw[if_neg h2];have h2':jz (gp p)=false:=by simpa using h2
   simp only[gS,h2',Bool.false_or];by_cases h3:20<(gp p).length <;> by_cases h4:100<p.length
   ·exact zcv
   ·exact zcv
   ·rw[if_pos (by simp;omega),if_pos (by simp;omega)]
   ·rw[if_neg (by simp;omega),if_neg (by simp;omega)]
theorem DO (s:Str)(w:World)(hs:s.length≤100000) :
  zCl 192 #[sV s] w fun e w'=>e=.returned (.bool (decide ((0:UInt8)∈s)))∧w=w':=by
 obtain⟨P,hP⟩:∃ P,sB s=P:=⟨_,rfl⟩
 have hsz:P.size=s.length:=by rw[←hP,jE]
 have hP1:(P.size:Int)≤100000:=by omega
 have ql:=hid hsz;have HP:=hid hP;rw[show sV s=.string P from by rw[←hP]];clear hP hs hsz;go_enter Tryz.func192,Tryz.ntmps192
 go_wp2_with fail
 go_loopw [3] (fun i w'=>w'=w∧∃ (k:Nat),k≤P.size∧i=.int .i64 k∧Hid (∀ j (hj:j<s.length),j<k→s[j]≠0)) (fun i _=>P.size-(intOf i).toNat)
 case atStart=>exact⟨rfl,0,by omega,rfl,hid fun j _ h=>absurd h (by omega)⟩
 case round =>
  obtain⟨rfl,k,hk,rfl,HN⟩:=hrel;have hk0:(0:Int)≤(k:Int):=by omega
  by_cases hlt:k<P.size
  ·have hki:(k:Int)<(P.size:Int):=by omega
   have hks:k<s.length:=by have:=ql.out;omega
   have he:=sX P s HP.out k hlt hks;by_cases hz:s[k]=0
   ·have hch:((P[k].toNat:Int)==0)=true:=by rw[he,hz];rfl
    have HF:=hid (show decide ((0:UInt8)∈s)=true from decide_eq_true (by rw[←hz];exact List.getElem_mem hks));clear hz he;exact zcZ
   ·have hch:((P[k].toNat:Int)==0)=false:=by
     rw[he];simp only[beq_eq_false_iff_ne,ne_eq];intro e3;exact hz (UInt8.toNat_inj.1 (by show _=(0:UInt8).toNat;have:(0:UInt8).toNat=0:=rfl;omega))
    have mZ:=hid (show ∀ j (hj:j<s.length),j<k+1→s[j]≠0 from fun j hj h=>by
     by_cases e:j=k
     ·subst e;exact hz
     ·exact HN.out j hj (by omega))
    have gW:=hid hlt;clear hz he hk HN;exact zbc
  ·obtain rfl:k=P.size:=by omega
   have hki:¬ (P.size:Int)<(P.size:Int):=by omega
   have HF:=hid (show decide ((0:UInt8)∈s)=false from decide_eq_false (by
    intro h;obtain⟨j,hj,e⟩:=List.getElem_of_mem h;exact HN.out j hj (by have:=ql.out;omega) e))
   clear hlt hk;exact zcZ
theorem vS (v:Value)(ps:List Str)(w:World)(hl:ps.length≤1000000)(hr:Rd w v 1 ps.length (ps.map sV)) :
  zCl 193 #[v] w fun e w'=>e=.returned (.bool (gS ps))∧w=w':=by
 obtain⟨p,c,rfl,-,-,hcs⟩:=hr.form;have vz:=hid hcs;have hl1:(ps.length:Int)≤1000000:=by omega
 clear hr hcs;go_enter Tryz.func193,Tryz.ntmps193
 go_wp2_with fail
 go_loopw [3] (fun i w'=>w'=w∧∃ (k:Nat),k≤ps.length∧i=.int .i64 k∧Hid (∀ j (hj:j<ps.length),j<k→¬ 24<ps[j].length)) (fun i _=>ps.length-(intOf i).toNat)
 case atStart=>exact⟨rfl,0,by omega,rfl,hid fun j _ h=>absurd h (by omega)⟩
 case round =>
  obtain⟨rfl,k,hk,rfl,HN⟩:=hrel;have hk0:(0:Int)≤(k:Int):=by omega
  by_cases hlt:k<ps.length
  ·have hki:(k:Int)<(ps.length:Int):=by omega
   obtain⟨g,o,rfl,hc⟩:=vz.out (by omega);have c0:wr.cell? ⟨g,o+k,none⟩=some (.string (sB ps[k])):=by
    rw[hc k (by omega)];simp[hlt]
   have hsz:(sB ps[k]).size=ps[k].length:=jE _;clear hc;by_cases hz:24<ps[k].length
   ·have hzi:(24:Int)<((sB ps[k]).size:Int):=by omega
    have HF:=hid (show gS ps=true from by
     unfold gS jz;rw[Bool.or_eq_true,List.any_eq_true];exact .inl ⟨_,List.getElem_mem hlt,decide_eq_true hz⟩)
    clear hz hsz;generalize sB ps[k]=y at *;exact zcZ
   ·have hzi:¬ (24:Int)<((sB ps[k]).size:Int):=by omega
    have mZ:=hid (show ∀ j (hj:j<ps.length),j<k+1→¬ 24<ps[j].length from fun j hj h=>by
     by_cases e:j=k
     ·subst e;exact hz
     ·exact HN.out j hj (by omega))
    have gW:=hid hlt;clear hz hsz hk HN;generalize sB ps[k]=y at *;exact zbc
  ·obtain rfl:k=ps.length:=by omega
   have hki:¬ (ps.length:Int)<(ps.length:Int):=by omega
   have hlo:jz ps=false:=by
    unfold jz;rw[List.any_eq_false];intro x hx;obtain⟨j,hj,rfl⟩:=List.getElem_of_mem hx;simpa using HN.out j hj hj
   have HF:=hid (show gS ps=decide ((20:Int)<(ps.length:Int)) from by
    unfold gS;rw[hlo,Bool.false_or,decide_eq_decide];omega)
   clear hlt hk hlo;exact zcZ
theorem zG (s:Str)(w:World)(L:List HP)(hs:s.length≤100000)(hO:Has w L) :
  zCl 145 #[sV s] w fun e w'=>∃ v,e=.returned (.tuple #[v,.int .i64 (fb s).2])∧Has w' (Strs v (fb s).1::L)∧Keep w w':=by
 have HZ:=hid (fun w'=>DO s w' hs);have tN:=hid (fun(w':World)(L':List HP)(h:Has w' L')=>yI s w' L' hs h);have i8:=hid (ug s);have ll:=hid (tp s);generalize fb s=M at *;obtain⟨P,hP⟩:∃ P,sB s=P:=⟨_,rfl⟩
 have hsz:P.size=s.length:=by rw[←hP,jE]
 have hP1:(P.size:Int)≤100000:=by omega
 have ql:=hid hsz;have HS:=hid hs;have HP:=hid hP;have HO:=hid hO;have hsv:sV s=.string P:=by rw[←hP]
 rw[hsv] at HZ tN ⊢;clear hP hs hsz hO hsv;by_cases h0:s = []
 ·have hP0:P=⟨#[]⟩:=HP.out.symm.trans (by rw[h0]);have HR:=hid (by rw[i8.out,if_pos (.inl (by rw[h0];simp))]:M=([],2));clear i8 HZ tN;subst hP0;go_enter Tryz.func145,Tryz.ntmps145
  go_wp2_with fail
  go_ret2
  exact za8
 ·have hpos:0<P.size:=by
   have:=ql.out;have:s.length≠0:=fun e=>h0 (List.eq_nil_of_length_eq_zero e);omega
  have hne:(P.toList == [])=false:=by
   rw[←HP.out,lE];simpa using h0
  have GJ:(0:Int)<(P.size:Int):=by omega
  have hpos0:0<s.length:=by have:=ql.out;omega
  have he:=sX P s HP.out 0 hpos hpos0;have hhd:s.head? = some s[0]:=by rw[List.head?_eq_getElem?,List.getElem?_eq_getElem hpos0]
  by_cases h1:s[0]=47
  ·have hch:((P[0].toNat:Int)==47)=true:=by rw[he,h1];rfl
   have K4:((P[0].toNat:Int) != 47)=false:=by rw[he,h1];rfl
   by_cases hz:(0:UInt8)∈s
   ·have HR:=hid (by rw[i8.out,if_pos (.inr hz)]:M=([],2));rw[decide_eq_true hz] at HZ;clear i8 tN h1 he hhd hz h0 hpos0;exact zc3
   ·have nw:=hid (show M=if 200<s.length∨gS (gp s)=true then([],11) else(gp s,0) from by
     rw[i8.out,if_neg];rw[hhd,h1];simpa using hz)
    rw[decide_eq_false hz] at HZ;clear i8 h1 he hhd hz h0 hpos0;by_cases hlen:200<s.length
    ·have DA:(200:Int)<(P.size:Int):=by have:=ql.out;omega
     have HR:=hid (by rw[nw.out,if_pos (.inl hlen)]:M=([],11));clear nw tN hlen;exact zc3
    ·have DA:¬ (200:Int)<(P.size:Int):=by have:=ql.out;omega
     by_cases hlo:gS (gp s)=true
     ·have HR:=hid (by rw[nw.out,if_pos (.inr hlo)]:M=([],11));have C3:=hid hlo;clear nw hlen hlo;go_enter Tryz.func145,Tryz.ntmps145
      go_wp2_with fail
      refine(HZ.out w).mono ?_;rintro e w' ⟨rfl,rfl⟩;try dsimp only
      go_wp2_with fail
      refine(tN.out w L HO.out).mono ?_;rintro e w1 ⟨v1,rfl,iq,hK1⟩;have eT:=hid iq;have ff:=hid ((Keep.refl w).trans hK1);clear iq hK1;try dsimp only
      have yO:=hid (fun(w':World)(hr:Rd w' v1 1 (gp s).length ((gp s).map sV))=>vS v1 (gp s) w' (by have h1:=ll.out;have h2:=HS.out;omega) hr);rw[C3.out] at yO;go_wp2_with fail
      refine(yO.out w1 (Strs.rd eT.out)).mono ?_;rintro e w' ⟨rfl,rfl⟩;try dsimp only
      go_wp2_with fail
      go_ret2
      exact zbf
     ·have HR:=hid (by rw[nw.out,if_neg (by simp[hlo];omega)]:M=(gp s,0));have C3:=hid (by simpa using hlo:gS (gp s)=false);clear nw hlen hlo;go_enter Tryz.func145,Tryz.ntmps145
      go_wp2_with fail
      refine(HZ.out w).mono ?_;rintro e w' ⟨rfl,rfl⟩;try dsimp only
      go_wp2_with fail
      refine(tN.out w L HO.out).mono ?_;rintro e w1 ⟨v1,rfl,iq,hK1⟩;have eT:=hid iq;have ff:=hid ((Keep.refl w).trans hK1);clear iq hK1;try dsimp only
      have yO:=hid (fun(w':World)(hr:Rd w' v1 1 (gp s).length ((gp s).map sV))=>vS v1 (gp s) w' (by have h1:=ll.out;have h2:=HS.out;omega) hr);rw[C3.out] at yO;go_wp2_with fail
      refine(yO.out w1 (Strs.rd eT.out)).mono ?_;rintro e w' ⟨rfl,rfl⟩;try dsimp only
      go_wp2_with fail
      refine(tN.out w1 L eT.out.drop).mono ?_;rintro e w2 ⟨v2,rfl,hO2,hK2⟩;have eZ:=hid hO2;have fu:=hid ((ff.out).trans hK2);clear hO2 hK2;try dsimp only
      go_wp2_with fail
      go_ret2
      rw[HR.out];exact⟨v2,rfl,eZ.out,fu.out⟩
  ·have hch:((P[0].toNat:Int)==47)=false:=by
    rw[he];simp only[beq_eq_false_iff_ne,ne_eq];intro e3;exact h1 (UInt8.toNat_inj.1 (by show _=(47:UInt8).toNat;have:(47:UInt8).toNat=47:=rfl;omega))
   have K4:((P[0].toNat:Int) != 47)=true:=by rw[bne,hch];rfl
   have HR:=hid (by rw[i8.out,if_pos (.inl (by rw[hhd];simpa using h1))]:M=([],2));clear i8 HZ tN h1 he hhd h0 hpos0;go_enter Tryz.func145,Tryz.ntmps145
   go_wp2_with fail
   go_ret2
   exact za8
theorem i7 (ps:List Str)(p:Str):fm (ps ++ [p])=fm ps++47::p:=by
 rw[lQ];show fm ps++(47::p ++ [])=_;rw[List.append_nil]
theorem uz {ps:List Str}{k:Nat}(h:k<ps.length):fm (ps.take (k+1))=fm (ps.take k)++47::ps[k]:=by
 rw[List.take_succ_eq_append_getElem h,i7]
theorem Ag (ps:List Str)(k:Nat):(fm (ps.take k)).length≤(fm ps).length:=by
 conv=>rhs;rw[←List.take_append_drop k ps,lQ,List.length_append]
 omega
theorem Hm (v:Value)(ps:List Str)(w:World)(hl:ps.length≤1000000)(hj:(fm ps).length≤1000000)(hr:Rd w v 1 ps.length (ps.map sV)) :
  zCl 195 #[v] w fun e w'=>e=.returned (sV (ii ps))∧w=w':=by
 obtain⟨p,c,rfl,-,-,hcs⟩:=hr.form;have vz:=hid hcs;have hl1:(ps.length:Int)≤1000000:=by omega
 have HJ:=hid hj;rw[qr];clear hr hcs hj;go_enter Tryz.func195,Tryz.ntmps195
 go_wp2_with fail
 go_loopw [3,4] (fun s i w'=>w'=w∧∃ (k:Nat) (P:ByteArray),k≤ps.length∧s=.string P∧i=.int .i64 k∧P.size≤1000000∧Hid (P=sB (fm (ps.take k)))) (fun _ i _=>ps.length-(intOf i).toNat)
 case atStart=>exact⟨rfl,0,_,by omega,rfl,rfl,by show 0≤1000000;omega,hid rfl⟩
 case round =>
  obtain⟨rfl,k,P,hk,rfl,rfl,PM,HP⟩:=hrel;have hk0:(0:Int)≤(k:Int):=by omega
  by_cases hlt:k<ps.length
  ·have hki:(k:Int)<(ps.length:Int):=by omega
   obtain⟨g,o,rfl,hc⟩:=vz.out (by omega);have c0:wr.cell? ⟨g,o+k,none⟩=some (.string (sB ps[k])):=by
    rw[hc k (by omega)];simp[hlt]
   have HP2:=hid (show P++⟨#[47]⟩++sB ps[k]=sB (fm (ps.take (k+1))) from by
    rw[uz hlt,←nz,HP.out,ByteArray.append_assoc,←rN])
   have hsz:(sB ps[k]).size+P.size+1≤1000000:=by
    have h1:=congrArg ByteArray.size HP2.out;rw[ByteArray.size_append,ByteArray.size_append] at h1;have h5:=jE (fm (ps.take (k+1)));have h2:=Ag ps (k+1);have h3:=HJ.out;have h4:(⟨#[47]⟩:ByteArray).size=1:=rfl;omega
   have gW:=hid hlt;clear hc hk;generalize sB ps[k]=y at *;have hz1:¬ 9223372036854775807<P.size+1:=by omega
   have hz2:¬ 9223372036854775807<P.size+1+y.size:=by omega
   have hz3:(P++⟨#[47]⟩++y).size≤1000000:=by
    rw[ByteArray.size_append,ByteArray.size_append];show P.size+1+y.size≤_;omega
   have HZ3:=hid hz3;clear hsz hz3 PM;go_wp2_with fail
   exact⟨⟨trivial,k+1,_,by have:=gW.out;omega,rfl,by go_num,HZ3.out,HP2⟩,by have:=gW.out;simp[intOf];omega⟩
  ·obtain rfl:k=ps.length:=by omega
   have hki:¬ (ps.length:Int)<(ps.length:Int):=by omega
   have HP2:=hid (by rw[HP.out,List.take_length]:P=sB (fm ps));clear hlt hk HP;by_cases he:fm ps = []
   ·have h0:P=⟨#[]⟩:=HP2.out.trans (by rw[he]);subst h0;have HR:=hid (by unfold orM;rw[if_pos he]:orM (fm ps) = [47]);clear he HP2;exact zcS
   ·have h0:(P.toList == [])=false:=by
     rw[HP2.out,lE];simpa using he
    have HR:=hid (by unfold orM;rw[if_neg he]:orM (fm ps)=fm ps);clear he;go_wp2_with fail
    go_ret
    rw[HR.out,HP2.out];exact za6
theorem uV (s:Str)(w:World)(L:List HP)(hs:s.length≤100000)(hO:Has w L) :
  zCl 137 #[sV s] w fun e w'=>∃ v,e=.returned (.tuple #[v,.bool (fN s).2.1,.int .i64 (fN s).2.2])∧Has w' (Strs v (fN s).1::L)∧Keep w w':=by
 have HZ:=hid (fun w'=>DO s w' hs);have tN:=hid (fun(w':World)(L':List HP)(h:Has w' L')=>yI s w' L' hs h);have i8:=hid (th s);have ll:=hid (tp s);generalize fN s=M at *;obtain⟨P,hP⟩:∃ P,sB s=P:=⟨_,rfl⟩
 have hsz:P.size=s.length:=by rw[←hP,jE]
 have hP1:(P.size:Int)≤100000:=by omega
 have ql:=hid hsz;have HS:=hid hs;have HP:=hid hP;have HO:=hid hO;have hsv:sV s=.string P:=by rw[←hP]
 rw[hsv] at HZ tN ⊢;clear hP hs hsz hO hsv;by_cases h0:s = []
 ·have hP0:P=⟨#[]⟩:=HP.out.symm.trans (by rw[h0]);have HR:=hid (by rw[i8.out,if_pos (.inl h0)]:M=([],false,2));clear i8 HZ tN;subst hP0;go_enter Tryz.func137,Tryz.ntmps137
  go_wp2_with fail
  go_ret3
  exact za8
 ·have hpos:0<P.size:=by
   have:=ql.out;have:s.length≠0:=fun e=>h0 (List.eq_nil_of_length_eq_zero e);omega
  have hne:(P.toList == [])=false:=by
   rw[←HP.out,lE];simpa using h0
  have GJ:(0:Int)<(P.size:Int):=by omega
  have hpos0:0<s.length:=by have:=ql.out;omega
  have he:=sX P s HP.out 0 hpos hpos0;have hhd:s.head? = some s[0]:=by rw[List.head?_eq_getElem?,List.getElem?_eq_getElem hpos0]
  by_cases hz:(0:UInt8)∈s
  ·have HR:=hid (by rw[i8.out,if_pos (.inr hz)]:M=([],false,2));rw[decide_eq_true hz] at HZ;clear i8 tN he hhd hz h0 hpos0;exact zc4
  ·have nw:=hid (show M=if 100<s.length∨gS (gp s)=true then([],false,11) else(gp s,decide (s.head? = some 47),0) from by
    rw[i8.out,if_neg];simpa using⟨h0,hz⟩)
   rw[decide_eq_false hz] at HZ;clear i8 hz;by_cases hlen:100<s.length
   ·have DA:(100:Int)<(P.size:Int):=by have:=ql.out;omega
    have HR:=hid (by rw[nw.out,if_pos (.inl hlen)]:M=([],false,11));clear nw tN hlen he hhd h0 hpos0;exact zc4
   ·have DA:¬ (100:Int)<(P.size:Int):=by have:=ql.out;omega
    by_cases hlo:gS (gp s)=true
    ·have HR:=hid (by rw[nw.out,if_pos (.inr hlo)]:M=([],false,11));have C3:=hid hlo;clear nw hlen hlo he hhd h0 hpos0;go_enter Tryz.func137,Tryz.ntmps137
     go_wp2_with fail
     refine(HZ.out w).mono ?_;rintro e w' ⟨rfl,rfl⟩;try dsimp only
     go_wp2_with fail
     refine(tN.out w L HO.out).mono ?_;rintro e w1 ⟨v1,rfl,iq,hK1⟩;have eT:=hid iq;have ff:=hid ((Keep.refl w).trans hK1);clear iq hK1;try dsimp only
     have yO:=hid (fun(w':World)(hr:Rd w' v1 1 (gp s).length ((gp s).map sV))=>vS v1 (gp s) w' (by have h1:=ll.out;have h2:=HS.out;omega) hr);rw[C3.out] at yO;go_wp2_with fail
     refine(yO.out w1 (Strs.rd eT.out)).mono ?_;rintro e w' ⟨rfl,rfl⟩;try dsimp only
     go_wp2_with fail
     go_ret3
     exact zbf
    ·have HR:=hid (by rw[nw.out,if_neg (by simp[hlo];omega)]:M=(gp s,decide (s.head? = some 47),0));have C3:=hid (by simpa using hlo:gS (gp s)=false);have HB:=hid (show ((P[0].toNat:Int)==47)=decide (s.head? = some 47) from by
      rw[he,hhd];by_cases h1:s[0]=47
      ·rw[h1];rfl
      ·rw[decide_eq_false (by simpa using h1)];simp only[beq_eq_false_iff_ne,ne_eq];intro e3;exact h1 (UInt8.toNat_inj.1 (by show _=(47:UInt8).toNat;have:(47:UInt8).toNat=47:=rfl;omega)))
     clear nw hlen hlo he hhd h0 hpos0;go_enter Tryz.func137,Tryz.ntmps137
     go_wp2_with fail
     refine(HZ.out w).mono ?_;rintro e w' ⟨rfl,rfl⟩;try dsimp only
     go_wp2_with fail
     refine(tN.out w L HO.out).mono ?_;rintro e w1 ⟨v1,rfl,iq,hK1⟩;have eT:=hid iq;have ff:=hid ((Keep.refl w).trans hK1);clear iq hK1;try dsimp only
     have yO:=hid (fun(w':World)(hr:Rd w' v1 1 (gp s).length ((gp s).map sV))=>vS v1 (gp s) w' (by have h1:=ll.out;have h2:=HS.out;omega) hr);rw[C3.out] at yO;go_wp2_with fail
     refine(yO.out w1 (Strs.rd eT.out)).mono ?_;rintro e w' ⟨rfl,rfl⟩;try dsimp only
     go_upto_region 5 with fail
     have gC:=hid eT.out.drop.drew;have iG:=hid ff.out.drew;refine eP (fun _=>True) (by kernel_rfl) (by kernel_rfl) trivial ?_;repeat (first
      | (refine ig (by rfl) (by rfl) ?_ ?_ ?_;rotate_left;(intro w hS;go_simp;with_reducible rfl);simp only[Act.put,zpu])|(refine iB (by rfl) ?_;simp only[Act.put,zpu]))
     refine wa fun K hK=>?_;go_simp
     refine(tN.out _ L gC.out).mono ?_;rintro e w2 ⟨v2,rfl,hO2,hK2⟩;have eZ:=hid hO2;have fu:=hid ((iG.out).trans hK2);clear hO2 hK2;try dsimp only
     refine hK.out _ _ (trivial) ?_;clear hK K;try simp only[Act.put,zpu]
     repeat (first
      | (refine ig (by rfl) (by rfl) ?_ ?_ ?_;rotate_left;(intro w hS;go_simp;with_reducible rfl);simp only[Act.put,zpu])|(refine iB (by rfl) ?_;simp only[Act.put,zpu]))
     refine eR ?_;go_wp2_with fail
     go_ret3
     rw[HR.out,HB.out];exact⟨v2,rfl,eZ.out,fu.out⟩
end Go.Proofs.YtmgpgbfgemebbaaGreatDoor
