/- TEXTS of mine, merged. -/
import Derived.Test.YtmgpgbfgemebbaaGreatDoorM0
import Derived.Test.YtmgpgbfgemebbaaGreatDoorM1
import Derived.Test.YtmgpgbfgemebbaaGreatDoorM24
import Derived.Test.YtmgpgbfgemebbaaGreatDoorM6
import Derived.Shelf.GgSortFunc.InsertionK
import Derived.Test.YtmgpgbfgemebbaaGreatDoorM7
import Derived.Shelf.SlSortCmp.WholeK
import Derived.Shelf.SlGeneric
import Derived.Ground.SlsfProg
import Derived.Test.YtmgpgbfgemebbaaGreatDoorProg
import Derived.Test.YtmgpgbfgemebbaaGreatDoorM15
import Derived.Test.YtmgpgbfgemebbaaGreatDoorM8
import Derived.Test.YtmgpgbfgemebbaaGreatDoorM11
set_option linter.all false
set_option maxRecDepth 100000
set_option maxHeartbeats 16000000
namespace Go.Gm
structure Geo where
 n:Int
 i:Int
 b:Int
deriving DecidableEq
def may (g:Geo):Bool:=(decide (1≤g.n)&&decide (g.n≤8))&&((decide (4≤g.i)&&decide (g.i≤32))&&(decide (g.i.tmod 4=0)&&(decide (16≤g.b)&&decide (g.b≤96))))
theorem je {g:Geo} : may g=true↔1≤g.n∧g.n≤8∧4≤g.i∧g.i≤32∧g.i % 4=0∧16≤g.b∧g.b≤96:=by
 simp only[may,Bool.and_eq_true,decide_eq_true_eq];have:g.i.tmod 4=0↔g.i % 4=0:=by
  rw[←Int.dvd_iff_tmod_eq_zero,Int.dvd_iff_emod_eq_zero]
 rw[this];omega
def Cc (g:Geo):Int:=1+g.i.tdiv 4+g.b
def vQ (g:Geo):Int:=if may g then 2+g.n*Cc g else 0
def inodes (g:Geo):Int:=if may g then g.n*g.i else 0
def blocks (g:Geo):Int:=if may g then g.n*g.b else 0
def zero:Geo:=⟨0,0,0⟩
def ri (x y:Geo):Bool:=if blocks x=blocks y then(if inodes x=inodes y then decide (x.n<y.n) else decide (inodes x>inodes y)) else decide (blocks x>blocks y)
theorem iR {x y:Geo} : ri x y=true↔blocks x>blocks y∨(blocks x=blocks y∧(inodes x>inodes y∨(inodes x=inodes y∧x.n<y.n))):=by
 unfold ri;split
 ·split
  ·simp;omega
  ·simp;omega
 ·simp;omega
def Best (A:Geo→Prop)(g:Geo):Prop:=(g=zero∧∀ x,¬ A x)∨(A g∧∀ x,A x→ri x g=false)
def ma (s:Int)(g:Geo):Prop:=may g=true∧vQ g≤s
theorem kJ:blocks zero=0∧inodes zero=0∧vQ zero=0:=⟨rfl,rfl,rfl⟩
theorem uU {n a b:Int}(hn:1≤n)(h:n*a=n*b):a=b:=Int.eq_of_mul_eq_mul_left (by omega) h
theorem Eo {n a b:Int}(hn:1≤n)(h:a≤b):n*a≤n*b:=Int.mul_le_mul_of_nonneg_left h (by omega)
theorem kG {g:Geo}(h:may g=true):blocks g=g.n*g.b:=by rw[blocks,if_pos h]
theorem lS {g:Geo}(h:may g=true):inodes g=g.n*g.i:=by rw[inodes,if_pos h]
theorem kU {g:Geo}(h:may g=true):0<blocks g:=by
 rw[kG h];obtain⟨h1,-,-,-,-,h2,-⟩:=je.1 h;exact Int.mul_pos (by omega) (by omega)
theorem Best.one {s:Int}{g h:Geo}(hg:Best (ma s) g)(hh:Best (ma s) h):g=h:=by
 rcases hg with ⟨rfl,h1⟩|⟨h1,h2⟩
 ·rcases hh with ⟨rfl,-⟩|⟨h3,-⟩
  ·rfl
  ·exact absurd h3 (h1 _)
 ·rcases hh with ⟨rfl,h3⟩|⟨h3,h4⟩
  ·exact absurd h1 (h3 _)
  ·have a:=h2 h h3;have b:=h4 g h1;rw[Bool.eq_false_iff,ne_eq,iR] at a b;have eb:blocks g=blocks h:=by omega
   have ei:inodes g=inodes h:=by omega
   have en:g.n=h.n:=by omega
   rw[kG h1.1,kG h3.1,en] at eb;rw[lS h1.1,lS h3.1,en] at ei;have hn:=(je.1 h3.1).1;have e1:=uU hn eb;have e2:=uU hn ei;cases g;cases h
   simp_all
def Top (s n:Int)(g:Geo):Prop:=(g=zero∧∀ x,ma s x→x.n≠n)∨(ma s g∧g.n=n∧∀ x,ma s x→x.n=n→x.b<g.b∨(x.b=g.b∧x.i≤g.i))
def Upto (s k:Int)(g:Geo):Prop:=Best (fun x=>ma s x∧x.n<k) g
theorem Upto.start (s:Int):Upto s 1 zero := .inl ⟨rfl,fun x h=>by have:=(je.1 h.1.1).1;omega⟩
theorem Upto.all {s:Int}{g:Geo}(h:Upto s 9 g):Best (ma s) g:=by
 have e:∀ x,ma s x→x.n<9:=fun x h=>by have:=(je.1 h.1).2.1;omega
 rcases h with ⟨rfl,h⟩|⟨h,h2⟩
 ·exact .inl ⟨rfl,fun x hx=>h x ⟨hx,e x hx⟩⟩
 ·exact .inr ⟨h.1,fun x hx=>h2 x ⟨hx,e x hx⟩⟩
theorem nf {s n:Int}{g x:Geo}(h:Top s n g)(hx:ma s x)(hn:x.n=n):g≠zero∧ma s g∧g.n=n∧(blocks x<blocks g∨(blocks x=blocks g∧inodes x≤inodes g)):=by
 rcases h with ⟨rfl,h⟩|⟨h,h2,h3⟩
 ·exact absurd hn (h x hx)
 ·have hp:=kU h.1;refine⟨fun e=>by rw[e,kJ.1] at hp;omega,h,h2,?_⟩;have hn1:=(je.1 hx.1).1;rw[kG h.1,kG hx.1,lS h.1,lS hx.1,h2,hn];rw[hn] at hn1;rcases h3 x hx hn with a|⟨a,b⟩
  ·left;exact Int.mul_lt_mul_of_pos_left a (by omega)
  ·right;rw[a];exact⟨rfl,Eo hn1 b⟩
theorem Upto.keep {s k:Int}{best g:Geo}(hb:Upto s k best)(hg:Top s k g)(h:blocks g<blocks best∨(blocks g=blocks best∧inodes g≤inodes best)):Upto s (k+1) best:=by
 rcases hb with ⟨rfl,h1⟩|⟨h1,h2⟩
 ·left;refine⟨rfl,fun x hx=>?_⟩;by_cases hn:x.n=k
  ·obtain⟨-,h3,-,-⟩:=nf hg hx.1 hn;have:=kU h3.1;rw[kJ.1] at h;omega
  ·exact h1 x ⟨hx.1,by omega⟩
 ·right;refine⟨⟨h1.1,by omega⟩,fun x hx=>?_⟩;by_cases hn:x.n=k
  ·obtain⟨-,-,-,h4⟩:=nf hg hx.1 hn;rw[Bool.eq_false_iff,ne_eq,iR];omega
  ·exact h2 x ⟨hx.1,by omega⟩
theorem Upto.take {s k:Int}{best g:Geo}(hb:Upto s k best)(hg:Top s k g)(h:¬ (blocks g<blocks best∨(blocks g=blocks best∧inodes g≤inodes best))):Upto s (k+1) g:=by
 have hz:g≠zero:=by
  intro e;subst e;rcases hb with ⟨rfl,-⟩|⟨h1,-⟩
  ·exact h (.inr ⟨rfl,Int.le_refl _⟩)
  ·have:=kU h1.1.1;rw[kJ.1,kJ.2.1] at h;omega
 rcases hg with ⟨e,-⟩|⟨h1,h2,h3⟩
 ·exact absurd e hz
 ·right;refine⟨⟨h1,by omega⟩,fun x hx=>?_⟩;by_cases hn:x.n=k
  ·obtain⟨-,-,-,h4⟩:=nf (.inr ⟨h1,h2,h3⟩) hx.1 hn;rw[Bool.eq_false_iff,ne_eq,iR];omega
  ·rcases hb with ⟨rfl,h5⟩|⟨h5,h6⟩
   ·exact absurd ⟨hx.1,by omega⟩ (h5 x)
   ·have a:=h6 x ⟨hx.1,by omega⟩;rw[Bool.eq_false_iff,ne_eq,iR] at a ⊢;omega
def Seen (s n i b:Int)(x:Geo):Prop:=ma s x∧(x.n<n∨(x.n=n∧(x.i<i∨(x.i=i∧x.b<b))))
theorem Best.next {s n i b:Int}{best:Geo}(hb:Best (Seen s n i b) best)(hr:ma s ⟨n,i,b⟩)(h:best=zero∨ri ⟨n,i,b⟩ best=true):Best (Seen s n i (b+1)) ⟨n,i,b⟩:=by
 right;refine⟨⟨hr,by simp;omega⟩,fun x hx=>?_⟩;by_cases he:x=⟨n,i,b⟩
 ·subst he;rw[Bool.eq_false_iff,ne_eq,iR];omega
 ·have hs:Seen s n i b x:=⟨hx.1,by
   have:=hx.2;by_cases h1:x.n=n∧x.i=i∧x.b=b
   ·exact absurd (by cases x;simp_all) he
   ·omega⟩
  rcases hb with ⟨rfl,h5⟩|⟨h5,h6⟩
  ·exact absurd hs (h5 x)
  ·have a:=h6 x hs;rcases h with h|h
   ·subst h;have:=kU h5.1.1;rw[kJ.1] at this;omega
   ·rw[iR] at h;rw[Bool.eq_false_iff,ne_eq,iR] at a ⊢;omega
theorem Best.row {s n i:Int}{best:Geo}(hi:i % 4=0)(hb:Best (Seen s n i 97) best):Best (Seen s n (i+4) 16) best:=by
 have e:∀ x,Seen s n i 97 x↔Seen s n (i+4) 16 x:=fun x=>by
  constructor
  ·rintro⟨h,h2⟩;exact⟨h,by omega⟩
  ·rintro⟨h,h2⟩;have:=je.1 h.1;exact⟨h,by omega⟩
 rw[show Seen s n i 97=Seen s n (i+4) 16 from funext fun x=>propext (e x)] at hb;exact hb
theorem Seen.start (s:Int):Best (Seen s 1 4 16) zero := .inl ⟨rfl,fun x h=>by have:=je.1 h.1.1;have:=h.2;omega⟩
theorem Seen.all {s:Int}{best:Geo}(hb:Best (Seen s 9 4 16) best):Best (ma s) best:=by
 have e:∀ x,Seen s 9 4 16 x↔ma s x:=fun x=>by
  constructor
  ·exact fun h=>h.1
  ·intro h;have:=je.1 h.1;exact⟨h,by omega⟩
 rw[show Seen s 9 4 16=ma s from funext fun x=>propext (e x)] at hb;exact hb
end Go.Gm
namespace Go.Proofs.YtmgpgbfgemebbaaGreatDoor
open Go.RowKit Go.Own Go.Gm
def lC (g:Geo):Value := .agg #[.int .i64 g.n,.int .i64 g.i,.int .i64 g.b]
abbrev jm (g:Geo):Array Value:=#[.int .i64 g.n,.int .i64 g.i,.int .i64 g.b]
theorem oz (n:Int)(h : -9223372036854775808≤n∧n≤9223372036854775807):wrap64 n=n:=by unfold wrap64;omega
theorem pU (n lo hi:Int)(w:World):zCl 198 #[.int .i64 n,.int .i64 lo,.int .i64 hi] w fun e w'=>e=.returned (.bool (decide (lo≤n)&&decide (n≤hi)))∧w=w':=by
 by_cases h:lo≤n
 ·have d1:decide (n ≥ lo)=true:=decide_eq_true h;have e1:decide (lo≤n)=true:=decide_eq_true h;rw[e1,Bool.true_and];clear e1;go_enter Tryz.func198,Tryz.ntmps198
  go_wp2
  go_ret
  exact za6
 ·have d1:decide (n ≥ lo)=false:=decide_eq_false h;have e1:decide (lo≤n)=false:=decide_eq_false h;rw[e1,Bool.false_and];clear e1;go_enter Tryz.func198,Tryz.ntmps198
  go_wp2
  go_ret
  exact za6
theorem FW (g:Geo)(w:World)(L:List HP)(hO:Has w L):zCl 149 #[lC g] w fun e w'=>e=.returned (.bool (may g))∧Has w' L∧Keep w w':=by
 have HO:=hid hO;have FIN:=hid (show ∀ b,b=may g→Ending.returned (.bool b)=.returned (.bool (may g))∧Has (w.alloc (.cells (jm g) 24)) L∧Keep w (w.alloc (.cells (jm g) 24)) from fun b hb=>⟨by rw[hb],hO.alloc' _,(Keep.refl w).alloc _⟩);have hc:=(hO.alloc (.cells (jm g) 24)).cells;clear hO;unfold lC;go_enter Tryz.func149,Tryz.ntmps149
 have HM:=hid (show may g=((decide (1≤g.n)&&decide (g.n≤8))&&((decide (4≤g.i)&&decide (g.i≤32))&&(decide (g.i.tmod 4=0)&&(decide (16≤g.b)&&decide (g.b≤96))))) from rfl);go_wp2_with fail
 refine(pU g.n 1 8 _).mono ?_;rintro e w' ⟨rfl,rfl⟩;try dsimp only
 cases h1:(decide (1≤g.n)&&decide (g.n≤8))
 ·have H1:=hid h1;clear h1;go_wp2_with fail
  go_ret
  exact FIN.out _ (by rw[HM.out,H1.out,Bool.false_and])
 ·have H1:=hid h1;clear h1;go_wp2_with fail
  refine(pU g.i 4 32 _).mono ?_;rintro e w' ⟨rfl,rfl⟩;try dsimp only
  cases h2:(decide (4≤g.i)&&decide (g.i≤32))
  ·have H2:=hid h2;clear h2;go_wp2_with fail
   go_ret
   exact FIN.out _ (by rw[HM.out,H1.out,H2.out,Bool.true_and,Bool.false_and])
  ·have H2:=hid h2;simp only[Bool.and_eq_true,decide_eq_true_eq] at h2;have hw:=oz (g.i.tmod 4) (by have:=Int.tmod_lt_of_pos g.i (show (0:Int)<4 by omega);have:=Int.tmod_nonneg 4 (show 0≤g.i by omega);omega);clear h2;by_cases h3:g.i.tmod 4=0
   ·have H3:=hid (decide_eq_true h3);have e3:(g.i.tmod 4==0)=true:=by simp[h3]
    clear h3;go_wp2_with fail
    refine(pU g.b 16 96 _).mono ?_;rintro e w' ⟨rfl,rfl⟩;try dsimp only
    go_wp2_with fail
    go_ret
    exact FIN.out _ (by rw[HM.out,H1.out,H2.out,H3.out,Bool.true_and,Bool.true_and,Bool.true_and])
   ·have H3:=hid (decide_eq_false h3);have e3:(g.i.tmod 4==0)=false:=by simp[h3]
    clear h3;go_wp2_with fail
    go_ret
    exact FIN.out _ (by rw[HM.out,H1.out,H2.out,H3.out,Bool.true_and,Bool.true_and,Bool.false_and])
theorem B1 {g:Geo}(hm:may g=true):18≤Cc g∧Cc g≤105∧1≤g.n∧g.n≤8:=by
 obtain⟨h1,h2,h3,h4,h5,h6,h7⟩:=je.1 hm;have hq:g.i.tdiv 4=g.i / 4:=Int.tdiv_eq_ediv_of_nonneg (by omega);rw[Cc,hq];omega
theorem q6 {a b:Int}(ha:1≤a∧a≤8)(hb:0≤b∧b≤105):0≤a*b∧a*b≤840:=by
 have h1:=Int.mul_nonneg (show 0≤a by omega) hb.1;have h2:=Int.mul_le_mul ha.2 hb.2 hb.1 (show (0:Int)≤8 by omega);omega
theorem BC (g:Geo)(w:World)(L:List HP)(hO:Has w L):zCl 82 #[lC g] w fun e w'=>e=.returned (.int .i64 (inodes g))∧Has w' L∧Keep w w':=by
 have HO:=hid (hO.alloc (.cells (jm g) 24));have HK:=hid ((Keep.refl w).alloc (.cells (jm g) 24));have hc:=(hO.alloc (.cells (jm g) 24)).cells;clear hO;have HC:=hid (fun w' L (h:Has w' L)=>FW g w' L h);unfold lC at *;go_enter Tryz.func82,Tryz.ntmps82
 exact zaS
theorem Ck (g:Geo)(w:World)(L:List HP)(hO:Has w L):zCl 81 #[lC g] w fun e w'=>e=.returned (.int .i64 (blocks g))∧Has w' L∧Keep w w':=by
 have HO:=hid (hO.alloc (.cells (jm g) 24));have HK:=hid ((Keep.refl w).alloc (.cells (jm g) 24));have hc:=(hO.alloc (.cells (jm g) 24)).cells;clear hO;have HC:=hid (fun w' L (h:Has w' L)=>FW g w' L h);unfold lC at *;go_enter Tryz.func81,Tryz.ntmps81
 exact zaT
theorem Do (g:Geo)(w:World)(L:List HP)(hO:Has w L):zCl 150 #[lC g] w fun e w'=>e=.returned (.bool (may g))∧Has w' L∧Keep w w':=by
 have HO:=hid hO;have FIN:=hid (show ∀ b,b=may g→Ending.returned (.bool b)=.returned (.bool (may g))∧Has (w.alloc (.cells (jm g) 24)) L∧Keep w (w.alloc (.cells (jm g) 24)) from fun b hb=>⟨by rw[hb],hO.alloc' _,(Keep.refl w).alloc _⟩);have hc:=(hO.alloc (.cells (jm g) 24)).cells;clear hO;have HM:=hid (show may g=((decide (1≤g.n)&&decide (g.n≤8))&&((decide (4≤g.i)&&decide (g.i≤32))&&(decide (g.i.tmod 4=0)&&(decide (16≤g.b)&&decide (g.b≤96))))) from rfl);unfold lC;go_enter Tryz.func150,Tryz.ntmps150
 by_cases h0:1≤g.n
 ·have H0:=hid (decide_eq_true h0);have e0:decide (g.n ≥ 1)=true:=decide_eq_true (by omega);by_cases h1:g.n≤8
  ·have H1:=hid (decide_eq_true h1);have e1:decide (g.n≤8)=true:=decide_eq_true (by omega);by_cases h2:4≤g.i
   ·have H2:=hid (decide_eq_true h2);have e2:decide (g.i ≥ 4)=true:=decide_eq_true (by omega);by_cases h3:g.i≤32
    ·have H3:=hid (decide_eq_true h3);have e3:decide (g.i≤32)=true:=decide_eq_true (by omega);have hw:=oz (g.i.tmod 4) (by have:=Int.tmod_lt_of_pos g.i (show (0:Int)<4 by omega);have:=Int.tmod_nonneg 4 (show 0≤g.i by omega);omega);by_cases h4:g.i.tmod 4=0
     ·have H4:=hid (decide_eq_true h4);have e4:(g.i.tmod 4==0)=true:=by simp[h4]
      have e4':(g.i % 4==0)=true:=by rw[Int.tmod_eq_emod_of_nonneg (by omega)] at h4;simp[h4]
      clear h4;by_cases h5:16≤g.b
      ·have H5:=hid (decide_eq_true h5);have e5:decide (g.b ≥ 16)=true:=decide_eq_true (by omega);by_cases h6:g.b≤96
       ·have H6:=hid (decide_eq_true h6);have e6:decide (g.b≤96)=true:=decide_eq_true (by omega);exact zce
       ·have H6:=hid (decide_eq_false h6);have e6:decide (g.b≤96)=false:=decide_eq_false (by omega);exact zce
      ·have H5:=hid (decide_eq_false h5);have e5:decide (g.b ≥ 16)=false:=decide_eq_false (by omega);go_wp2_with fail
       go_ret
       exact FIN.out _ (by rw[HM.out,H0.out,H1.out,H2.out,H3.out,H4.out,H5.out] <;> first|rfl|simp|(simp;omega))
     ·have H4:=hid (decide_eq_false h4);have e4:(g.i.tmod 4==0)=false:=by simp[h4]
      have e4':(g.i % 4==0)=false:=by rw[Int.tmod_eq_emod_of_nonneg (by omega)] at h4;simp[h4]
      clear h4;go_wp2_with fail
      go_ret
      exact FIN.out _ (by rw[HM.out,H0.out,H1.out,H2.out,H3.out,H4.out] <;> first|rfl|simp|(simp;omega))
    ·have H3:=hid (decide_eq_false h3);have e3:decide (g.i≤32)=false:=decide_eq_false (by omega);go_wp2_with fail
     go_ret
     exact FIN.out _ (by rw[HM.out,H0.out,H1.out,H2.out,H3.out] <;> first|rfl|simp|(simp;omega))
   ·have H2:=hid (decide_eq_false h2);have e2:decide (g.i ≥ 4)=false:=decide_eq_false (by omega);go_wp2_with fail
    go_ret
    exact FIN.out _ (by rw[HM.out,H0.out,H1.out,H2.out] <;> first|rfl|simp|(simp;omega))
  ·have H1:=hid (decide_eq_false h1);have e1:decide (g.n≤8)=false:=decide_eq_false (by omega);go_wp2_with fail
   go_ret
   exact FIN.out _ (by rw[HM.out,H0.out,H1.out] <;> first|rfl|simp|(simp;omega))
 ·have H0:=hid (decide_eq_false h0);have e0:decide (g.n ≥ 1)=false:=decide_eq_false (by omega);go_wp2_with fail
  go_ret
  exact FIN.out _ (by rw[HM.out,H0.out] <;> first|rfl|simp|(simp;omega))
theorem AB (g:Geo)(w:World)(L:List HP)(hO:Has w L):zCl 84 #[lC g] w fun e w'=>e=.returned (.int .i64 (inodes g))∧Has w' L∧Keep w w':=by
 have HO:=hid (hO.alloc (.cells (jm g) 24));have HK:=hid ((Keep.refl w).alloc (.cells (jm g) 24));have hc:=(hO.alloc (.cells (jm g) 24)).cells;clear hO;have HC:=hid (fun w' L (h:Has w' L)=>Do g w' L h);unfold lC at *;go_enter Tryz.func84,Tryz.ntmps84
 exact zaS
theorem y8 (g:Geo)(w:World)(L:List HP)(hO:Has w L):zCl 83 #[lC g] w fun e w'=>e=.returned (.int .i64 (blocks g))∧Has w' L∧Keep w w':=by
 have HO:=hid (hO.alloc (.cells (jm g) 24));have HK:=hid ((Keep.refl w).alloc (.cells (jm g) 24));have hc:=(hO.alloc (.cells (jm g) 24)).cells;clear hO;have HC:=hid (fun w' L (h:Has w' L)=>Do g w' L h);unfold lC at *;go_enter Tryz.func83,Tryz.ntmps83
 exact zaT
def jc (S:Tre)(y:Geo):Bool:=decide (Go.Gm.blocks y<2*fX S.ac+16)||decide (Go.Gm.inodes y<2*(S.ac.length:Int)+2)
theorem qT (y:Geo):0≤Go.Gm.blocks y∧Go.Gm.blocks y≤100000∧0≤Go.Gm.inodes y∧Go.Gm.inodes y≤100000:=by
 unfold Go.Gm.blocks Go.Gm.inodes;by_cases h:may y=true
 ·rw[if_pos h,if_pos h];obtain⟨-,-,h1,h2⟩:=B1 h;have h3:4≤y.i∧y.i≤32∧16≤y.b∧y.b≤96:=by
   unfold may at h;simp only[Bool.and_eq_true,decide_eq_true_eq] at h;omega
  have a:=q6 (a:=y.n) (b:=y.b) ⟨h1,h2⟩ (by omega);have b:=q6 (a:=y.n) (b:=y.i) ⟨h1,h2⟩ (by omega);omega
 ·rw[if_neg h,if_neg h];omega
theorem nY {S:Tre}{rk:Int→Nat}{k:Nat}(hk:k≤900)(g:Gd S rk k):0≤fX S.ac∧fX S.ac≤1000000000∧S.ac.length≤901:=by
 have h0:∀ t:List (Int×Nod),(∀ p∈t,0≤fD p.2∧fD p.2≤1000000)→0≤fX t∧fX t≤t.length*1000000:=by
  intro t;induction t with
  | nil=>intro _;exact⟨Int.le_refl _,Int.le_refl _⟩
  | cons p t ih =>
   intro h;have h1:=ih fun q hq=>h q (List.mem_cons_of_mem _ hq);have h2:=h p List.mem_cons_self;have e:fX (p::t)=fD p.2+fX t:=by unfold fX;rw[List.map_cons,List.sum_cons]
   rw[e,List.length_cons];omega
 have h1:=h0 S.ac fun p hp=>by
  have hx:=gf g.x.keys hp;have:=(g.ax hx).size;exact jB p.2 (by omega) (by omega) (by omega)
 have h2:=g.many;omega
theorem zD (q:Nat)(S:Tre)(rk:Int→Nat)(k:Nat)(y:Geo)(w:World)(L:List HP)(hk:k≤900)(hG:Gd S rk k)(hO:Has w (Rts q S::L)) :
  zCl 27 #[.pointer (some ⟨q,0,none⟩),lC y] w fun e w'=>e=.returned (.bool (jc S y))∧Has w' (Rts q S::L)∧Keep w w':=by
 have HN:=hid (fun(w:World)(L':List HP)(h:Has w (Rts q S::L'))=>Ae q S rk k w L' hk hG h);obtain⟨hs1,hs2,hs3⟩:=nY hk hG;obtain⟨hg1,hg2,hg3,hg4⟩:=qT y;have HC:=hid (show jc S y=(decide (Go.Gm.blocks y<2*fX S.ac+16)||decide (Go.Gm.inodes y<2*(S.ac.length:Int)+2)) from rfl);have Mv:=hid (fun(w:World)(L':List HP)(h:Has w L')=>y8 y w L' h);have ya:=hid (fun(w:World)(L':List HP)(h:Has w L')=>AB y w L' h);generalize jc S y=RR at *;generalize fX S.ac=sb at *;have hsn:(S.ac.length:Int)≤901:=by omega
 have L7:(0:Int)≤(S.ac.length:Int):=by omega
 generalize (S.ac.length:Int)=sn at *;generalize Go.Gm.blocks y=gb at *;generalize Go.Gm.inodes y=gi at *;have h1:=hO.alloc (.cells #[.int .i64 y.n,.int .i64 y.i,.int .i64 y.b] 24);have ff:=hid ((Keep.refl w).alloc (.cells #[.int .i64 y.n,.int .i64 y.i,.int .i64 y.b] 24));have eT:=hid h1;clear h1 hO hG hs3;unfold lC;go_enter Tryz.func27,Tryz.ntmps27
 go_upto_region 1 with fail
 exact zau
theorem AV (q:Nat)(S:Tre)(rk:Int→Nat)(k:Nat)(y:Geo)(w:World)(L:List HP)(hk:k≤900)(hG:Gd S rk k)(hO:Has w (Trc q S::L)) :
  zCl 26 #[.pointer (some ⟨q,0,none⟩),lC y] w fun e w'=>e=.returned (.bool (jc S y))∧Has w' (Trc q S::L)∧Keep w w':=by
 have HN:=hid (fun(w:World)(L':List HP)(h:Has w (Trc q S::L'))=>zL q S w L' (fun n x hx=>by have:=(hG.ax hx).size;omega) (by have:=hG.many;omega) h);obtain⟨hs1,hs2,hs3⟩:=nY hk hG;obtain⟨hg1,hg2,hg3,hg4⟩:=qT y;have HC:=hid (show jc S y=(decide (Go.Gm.blocks y<2*fX S.ac+16)||decide (Go.Gm.inodes y<2*(S.ac.length:Int)+2)) from rfl);have Mv:=hid (fun(w:World)(L':List HP)(h:Has w L')=>Ck y w L' h);have ya:=hid (fun(w:World)(L':List HP)(h:Has w L')=>BC y w L' h);generalize jc S y=RR at *;generalize fX S.ac=sb at *;have hsn:(S.ac.length:Int)≤901:=by omega
 have L7:(0:Int)≤(S.ac.length:Int):=by omega
 generalize (S.ac.length:Int)=sn at *;generalize Go.Gm.blocks y=gb at *;generalize Go.Gm.inodes y=gi at *;have h1:=hO.alloc (.cells #[.int .i64 y.n,.int .i64 y.i,.int .i64 y.b] 24);have ff:=hid ((Keep.refl w).alloc (.cells #[.int .i64 y.n,.int .i64 y.i,.int .i64 y.b] 24));have eT:=hid h1;clear h1 hO hG hs3;unfold lC;go_enter Tryz.func26,Tryz.ntmps26
 go_upto_region 3 with fail
 exact zau
end Go.Proofs.YtmgpgbfgemebbaaGreatDoor
namespace Go.Own
open Go.RowKit
theorem uQ {α:Type} (enc:α→List Value) (k:Nat) (hk:0<k) (he:∀ x,(enc x).length=k):∀ (l:List α) (t:Nat) (h:t<l.length*k),(l.flatMap enc)[t]? = (enc (l[t / k]'(Nat.div_lt_of_lt_mul (by rw[Nat.mul_comm];exact h))))[t % k]?
 | [],t,h=>by simp at h
 | x::l,t,h=>by
  rw[List.flatMap_cons];by_cases ht:t<k
  ·rw[List.getElem?_append_left (by rw[he];exact ht)];have e1:t / k=0:=Nat.div_eq_of_lt ht;have e2:t % k=t:=Nat.mod_eq_of_lt ht;simp[e1,e2]
  ·have hle:k≤t:=by omega
   rw[List.getElem?_append_right (by rw[he];exact hle),he];have h':t-k<l.length*k:=by
    rw[List.length_cons,Nat.succ_mul] at h;omega
   rw[uQ enc k hk he l (t-k) h'];have e1:t / k=(t-k) / k+1:=by
    conv=>lhs;rw[show t=t-k+k from by omega]
    rw[Nat.add_div_right _ hk]
   have e2:t % k=(t-k) % k:=by
    conv=>lhs;rw[show t=t-k+k from by omega]
    rw[Nat.add_mod_right]
   simp[e1,e2]
theorem oW {α:Type} [Inhabited α] (enc:α→List Value) (k:Nat) (hk:0<k) (he:∀ x,(enc x).length=k) (d:Array α):(Go.Sort.flatK enc k d).toList=d.toList.flatMap enc:=by
 apply List.ext_getElem?;intro t;have hl:(d.toList.flatMap enc).length=d.size*k:=by
  rw[List.length_flatMap];have:(d.toList.map fun x=>(enc x).length)=List.replicate d.size k:=by
   apply List.ext_getElem
   ·simp
   ·intro i h1 h2;simp[he]
  rw[this];simp
 by_cases ht:t<d.size*k
 ·rw[uQ enc k hk he d.toList t (by simpa using ht),Array.getElem?_toList,Array.getElem?_eq_getElem (by simpa using ht)];have h1:=Go.Sort.get_flatK enc k d t ht;rw[getElem!_pos _ t (by simpa using ht)] at h1;have h2:t / k<d.size:=Nat.div_lt_of_lt_mul (by rw[Nat.mul_comm];exact ht);rw[h1,getElem!_pos d (t / k) h2];have h3:t % k<(enc d[t / k]).length:=by rw[he];exact Nat.mod_lt _ hk
  rw[getElem!_pos _ (t % k) h3];simp
 ·rw[List.getElem?_eq_none (by rw[Array.length_toList];simp;omega),List.getElem?_eq_none (by rw[hl];omega)]
section
variable {w:World} {l:List HP} {e:TypeId} {size n:Nat} {xs:List Value}
theorem Has.putRowK {α:Type} [Inhabited α] (enc:α→List Value) (hs:0<size) (he:∀ x,(enc x).length=size) {g cap m:Nat} {d:Array α} (h:Has w (row (.slice (some ⟨g,0,none⟩) m cap) e size n xs::l)) (hd:d.size=n) :
  Has (Go.Sort.putRowK enc size w g 0 d) (row (.slice (some ⟨g,0,none⟩) m cap) e size n (d.toList.flatMap enc)::l):=by
 rw[←oW enc size hs he d];have hF:(Go.Sort.flatK enc size d).size=n*size:=by simp[hd]
 unfold Go.Sort.putRowK;generalize Go.Sort.flatK enc size d=F at *;obtain⟨hl,h|⟨g',cap',cur,e1,h1,h2,h3,h4,h5⟩⟩:=h.ao
 ·exact absurd h.1 (by simp)
 ·simp only[Value.slice.injEq,Option.some.injEq,Addr.mk.injEq] at e1;obtain⟨⟨rfl,-,-⟩,rfl,rfl⟩:=e1;have hle:F.size≤cap*size:=by rw[hF];exact Nat.mul_le_mul_right size (by omega)
  have hp:Has (Sort.putRow id w g 0 F) (pt g (.cells (Sort.putCells id 0 F cur) e)::l):=by
   exact zbU
  refine hp.row_of (by omega) h2 (by simpa[Sort.putCells] using h3) ?_ (by simp[hF]);apply List.ext_getElem?;intro k;by_cases hk:k<F.size
  ·have hkc:k<cur.size:=by omega
   rw[List.getElem?_take,if_pos (by omega),Array.getElem?_toList,Sort.putCells,Array.getElem?_mapIdx,Array.getElem?_eq_getElem hkc,Option.map_some,if_pos ⟨Nat.zero_le _,by omega⟩,Array.getElem?_toList,Nat.sub_zero,
    Array.getElem?_eq_getElem hk,getElem!_pos F k hk]
   rfl
  ·rw[List.getElem?_eq_none (by simp[Sort.putCells];omega),List.getElem?_eq_none (by simp;omega)]
end
end Go.Own
namespace Go.Proofs.YtmgpgbfgemebbaaGreatDoor
open Go.RowKit Go.Own Go.Sort
theorem Kb (x y:Sn)(W:World):zCl 89 #[.agg x.enc.toArray,.agg y.enc.toArray] W fun e w'=>e=.returned (.int .i64 (Lib.compareBytes x.ag y.ag))∧∃ q os',w'=grow (W.drewN q) os':=by
 have hcon:=fun W'=>Tryz.strings_Compare (sB x.ag) (sB y.ag) W';unfold Sn.enc;go_enter Tryz.func89,Tryz.ntmps89
 go_wp2_with fail
 refine(hcon _).mono ?_;rintro e w' ⟨rfl,rfl⟩;try dsimp only
 go_wp2_with fail
 go_ret
 exact⟨rfl,0,_,by rw[alloc_eq_grow,alloc_eq_grow,grow_grow];rfl⟩
def Srt (os:List Sn):Prop:=os.Pairwise fun a b=>¬ Lib.compareBytes b.ag a.ag<0
def vL:Prop:=∀ (v:Value) (os:List Sn) (w:World) (L:List HP),os≠[]→os.length≤1000000→Has w (Sns v os::L)→zCl 88 #[v,.func (.func 89) #[] #[]] w fun e w'=>e=.returned (.tuple #[])∧∃ os',os'.Perm os∧Srt os'∧Has w' (Sns v os'::L)∧Keep w w'
theorem Ap (DJ:vL)(q:Nat)(S:Tre)(x:Nod)(rk:Int→Nat)(w:World)(L:List HP)(h1:fnd S.ac 1=some x)(hdl:∀ n x,fnd S.ac n=some x→x.data.length≤100000)(hlow:∀ n x,fnd S.ac n=some x→rk n≤21)(hrk:∀ n x,fnd S.ac n=some x→∀ e∈x.ab,rk n<rk e.2∧e.1.length≤24∧∃ y,fnd S.ac e.2=some y)(DI:(seen S.ac 22 1 []).length≤1000000)(hO:Has w (Trc q S::L)) :
  zCl 28 #[.pointer (some ⟨q,0,none⟩)] w fun e w'=>∃ v os,e=.returned v∧(os.map Sn.key).Perm ((seen S.ac 22 1 []).map jQ)∧Srt os∧Has w' (Sns v os::Trc q S::L)∧Keep w w':=by
 obtain⟨m,f,P,hJ,h⟩:=eY.1 hO;have hnd:=Trb.nodup h;have hfn:∀ y∈P,fnd S.ac y.1=some y.2.2:=by
  intro y hy;rw[←hJ.1];exact gf (by rw[gr];exact hnd) (List.mem_map.2 ⟨y,hy,rfl⟩)
 have h1':=h1;rw[←hJ.1] at h1';obtain⟨A,b,B,kj⟩:=jy h1';have hin:(1,b,x)∈P:=by rw[kj];simp
 have hP:pnN P=S.ac:=hJ.1;have Ii:=hid (fun gt gs go=>Lm q m f gt gs go P S.last S.ak rk (fun y hy=>hdl _ _ (hfn y hy)) hnd (fun y hy=>hlow _ _ (hfn y hy)) (fun y hy e he=>by
  obtain⟨a1,a2,z,hz⟩:=hrk _ _ (hfn y hy) e he;refine⟨a1,a2,?_⟩;rw[←hP] at hz;obtain⟨A',b',B',e'⟩:=jy hz;exact⟨(e.2,b',z),by rw[e'];simp,rfl⟩) 22 1 b x [] P)
 have fW:=hid hJ;have HT:=hid (show Has w (Trg q m f P S.last S.ak P::L) from Trg.of h);have ya:=hid hin;have LT:=hid (hlow _ _ h1);have Dy:=hid DI;have Kw:=hid DJ;clear hO h hnd hfn h1' hin kj hdl hlow hrk DI DJ hJ;have h2:=((HT.out.alloc (.cells #[.pointer (some ⟨q,0,none⟩)] 27)).alloc (.cells #[.slice none 0 0] 48)).alloc (.cells #[.nilFunc] 116);have e1:(w.alloc (.cells #[.pointer (some ⟨q,0,none⟩)] 27)).heap.size=w.heap.size+1:=by show (Array.push _ _).size=_;rw[Array.size_push]
 have e2:((w.alloc (.cells #[.pointer (some ⟨q,0,none⟩)] 27)).alloc (.cells #[.slice none 0 0] 48)).heap.size=w.heap.size+1+1:=by show (Array.push _ _).size=_;rw[Array.size_push,e1]
 rw[e2,e1] at h2;have hcs:=(show _=some Value.nilFunc from h2.cells 0)
 have hts:=h2.thaw 0;have h3:=((HT.out.alloc (.cells #[.pointer (some ⟨q,0,none⟩)] 27)).alloc (.cells #[.slice none 0 0] 48)).alloc (.cells #[.func (.func 85) #[] #[.pointer (some ⟨w.heap.size,0,none⟩),.pointer (some ⟨w.heap.size+1,0,none⟩),.pointer (some ⟨w.heap.size+1+1,0,none⟩)]] 116);rw[e2,e1] at h3;have eZ:=hid h3;have fu:=hid ((((Keep.refl w).alloc (.cells #[.pointer (some ⟨q,0,none⟩)] 27)).alloc (.cells #[.slice none 0 0] 48)).alloc (.cells #[.func (.func 85) #[] #[.pointer (some ⟨w.heap.size,0,none⟩),.pointer (some ⟨w.heap.size+1,0,none⟩),.pointer (some ⟨w.heap.size+1+1,0,none⟩)]] 116));have hsf:∀ (W:World) (a:Addr) (u v:Array Value),(store a (.func (.func 85) u v)).run Tryz.prog W=stored Tryz.prog W a (.func (.func 85) u v) .plain:=fun W a u v=>run_store Tryz.prog W a _ .plain rfl;clear h2 h3 e1 e2;go_enter Tryz.func28,Tryz.ntmps28
 go_upto_region 6 with fail
 generalize ((w.alloc (.cells #[.pointer (some ⟨q,0,none⟩)] 27)).alloc (.cells #[.slice none 0 0] 48)).alloc (.cells #[.func (.func 85) #[] #[.pointer (some ⟨w.heap.size,0,none⟩),.pointer (some ⟨w.heap.size+1,0,none⟩),.pointer (some ⟨w.heap.size+1+1,0,none⟩)]] 116)=w2 at *;clear hcs hts HT hsf;generalize hgs:w.heap.size+1+1=gs at *;generalize hgo:w.heap.size+1=go at *;generalize w.heap.size=gt at *;have hgc:=eZ.out.e0;have eW:=hid (show Has w2 (Sns (.slice none 0 0) []::pt go (.cells #[.slice none 0 0] 48)::pt gt (.cells #[.pointer (some ⟨q,0,none⟩)] 27)::pt gs (.cells #[.func (.func 85) #[] #[.pointer (some ⟨gt,0,none⟩),.pointer (some ⟨go,0,none⟩),.pointer (some ⟨gs,0,none⟩)]] 116)::Trg q m f P S.last S.ak P::L) from fZ.2 ((eZ.out.re 4 [1,2,0,3]).al 57 5));have HX:=hid (Ii.out gt gs go (.slice none 0 0) [] w2 L (by omega) LT.out ya.out (by simp) (fun y hy _=>hy) (by have:=Dy.out;rw[fW.out.1];simpa using this) eW.out);rw[fW.out.1] at HX;clear eZ eW;go_wp2_with fail
 refine HX.out.mono ?_;rintro e w4 ⟨rfl,ov,os,hpm,hO4,hK4⟩;rw[List.nil_append] at hO4;have o1:=hid hpm;have fg:=hid hO4;have fO:=hid (fu.out.trans hK4);have np:=hid (by have h1:=hpm.length_eq;rw[List.length_map,List.length_map] at h1;have:=Dy.out;omega:os.length≤1000000);have Bd:=hid (show os≠[] from by
  rintro rfl;have h1:=hpm.length_eq;rw[List.length_map,List.length_map,seen] at h1;simp at h1)
 clear hpm hO4 hK4 HX fu hgc;try dsimp only
 have hov:=fg.out.p1.e0;have FK:=hid (Kw.out ov os w4 _ Bd.out np.out fg.out);obtain⟨po,co,rfl,-⟩:=(Has.rd (fZ.1 fg.out)).form;go_wp2_with fail
 refine FK.out.mono ?_;rintro e w5 ⟨rfl,os',iK,hs5,kk,hK5⟩;have PV:=kk.p1.e0;try dsimp only
 have fi:=hid kk;have ge:=hid (fO.out.trans hK5);have xX:=hid iK;have PO:=hid hs5;clear kk hK5 iK hs5 FK hov;go_wp2_with fail
 go_ret
 refine⟨_,os',rfl,(xX.out.map _).trans o1.out,PO.out,?_,ge.out⟩;have h9:=fi.out.re 5 [4,0];exact(show Has w5 (Trc q S::_) from eY.2 ⟨m,f,P,fW.out,h9⟩).re 2 [1,0]
end Go.Proofs.YtmgpgbfgemebbaaGreatDoor
namespace Go.Proofs
open Go.Shelf
def Tryz.bM:Go.Shelf.Ren:=⟨fun|6=>88|15=>152|14=>151|28=>207|29=>208|20=>199|21=>200|22=>201|23=>202|24=>203|25=>204|26=>205|27=>206|46=>238|47=>239|48=>240|49=>241|50=>242|57=>270|n=>n,fun|22=>48|24=>57|25=>120|3=>3|39=>171|0=>0|53=>256|55=>258|4=>4|46=>250|45=>249|50=>146|5=>5|9=>9|66=>278|70=>282|76=>306|77=>45|n=>n,fun|n=>n⟩
theorem Tryz.cR:Go.Proofs.SlLaysF0.n6 Tryz.prog Tryz.bM:={
 mixed:=by kernel_rfl
 f6:=⟨Tryz.f88.name,by decide,Tryz.func88.trans (congrArg some (by kernel_rfl))⟩
 f14:=⟨Tryz.f151.name,by decide,Tryz.func151.trans (congrArg some (by kernel_rfl))⟩
 f15:=Tryz.func152.trans (congrArg some (by kernel_rfl))
 f20:=⟨Tryz.f199.name,by decide,Tryz.func199.trans (congrArg some (by kernel_rfl))⟩
 f21:=⟨Tryz.f200.name,by decide,Tryz.func200.trans (congrArg some (by kernel_rfl))⟩
 f22:=⟨Tryz.f201.name,by decide,Tryz.func201.trans (congrArg some (by kernel_rfl))⟩
 f23:=⟨Tryz.f202.name,by decide,Tryz.func202.trans (congrArg some (by kernel_rfl))⟩
 f24:=⟨Tryz.f203.name,by decide,Tryz.func203.trans (congrArg some (by kernel_rfl))⟩
 f25:=⟨Tryz.f204.name,by decide,Tryz.func204.trans (congrArg some (by kernel_rfl))⟩
 f26:=⟨Tryz.f205.name,by decide,Tryz.func205.trans (congrArg some (by kernel_rfl))⟩
 f27:=⟨Tryz.f206.name,by decide,Tryz.func206.trans (congrArg some (by kernel_rfl))⟩
 f28:=Tryz.func207.trans (congrArg some (by kernel_rfl))
 f29:=Tryz.func208.trans (congrArg some (by kernel_rfl))
 f46:=⟨Tryz.f238.name,by decide,Tryz.func238.trans (congrArg some (by kernel_rfl))⟩
 f47:=Tryz.func239.trans (congrArg some (by kernel_rfl))
 f48:=Tryz.func240.trans (congrArg some (by kernel_rfl))
 f49:=⟨Tryz.f241.name,by decide,Tryz.func241.trans (congrArg some (by kernel_rfl))⟩
 f50:=⟨Tryz.f242.name,by decide,Tryz.func242.trans (congrArg some (by kernel_rfl))⟩
 f57:=⟨Tryz.f270.name,by decide,Tryz.func270.trans (congrArg some (by kernel_rfl))⟩
 t0:=Tryz.underlying0
 a0:=Tryz.isAgg0
 z0:=Tryz.sizeOf0
 v0:=Tryz.zeroValue0
 t3:=Tryz.underlying3
 a3:=Tryz.isAgg3
 z3:=Tryz.sizeOf3
 v3:=Tryz.zeroValue3
 t4:=Tryz.underlying4
 a4:=Tryz.isAgg4
 z4:=Tryz.sizeOf4
 v4:=Tryz.zeroValue4
 t5:=Tryz.underlying5
 a5:=Tryz.isAgg5
 z5:=Tryz.sizeOf5
 v5:=Tryz.zeroValue5
 t9:=Tryz.underlying9
 a9:=Tryz.isAgg9
 z9:=Tryz.sizeOf9
 v9:=Tryz.zeroValue9
 t22:=Tryz.underlying48
 a22:=Tryz.isAgg48
 z22:=Tryz.sizeOf48
 v22:=Tryz.zeroValue48
 t25:=Tryz.underlying120
 a25:=Tryz.isAgg120
 z25:=Tryz.sizeOf120
 v25:=Tryz.zeroValue120
 t39:=Tryz.underlying171
 a39:=Tryz.isAgg171
 z39:=Tryz.sizeOf171
 v39:=Tryz.zeroValue171
 t45:=Tryz.underlying249
 a45:=Tryz.isAgg249
 z45:=Tryz.sizeOf249
 v45:=Tryz.zeroValue249
 t46:=Tryz.underlying250
 a46:=Tryz.isAgg250
 z46:=Tryz.sizeOf250
 v46:=Tryz.zeroValue250
 t50:=Tryz.underlying146
 a50:=Tryz.isAgg146
 z50:=Tryz.sizeOf146
 v50:=Tryz.zeroValue146
 t53:=Tryz.underlying256
 a53:=Tryz.isAgg256
 z53:=Tryz.sizeOf256
 v53:=Tryz.zeroValue256
 t55:=Tryz.underlying258
 a55:=Tryz.isAgg258
 z55:=Tryz.sizeOf258
 v55:=Tryz.zeroValue258
 t66:=Tryz.underlying278
 a66:=Tryz.isAgg278
 z66:=Tryz.sizeOf278
 v66:=Tryz.zeroValue278
 t70:=Tryz.underlying282
 a70:=Tryz.isAgg282
 z70:=Tryz.sizeOf282
 v70:=Tryz.zeroValue282
 t76:=Tryz.underlying306
 a76:=Tryz.isAgg306
 z76:=Tryz.sizeOf306
 v76:=Tryz.zeroValue306
 t77:=Tryz.underlying45
 a77:=Tryz.isAgg45
 z77:=Tryz.sizeOf45
 v77:=Tryz.zeroValue45}
end Go.Proofs
namespace Go.Proofs.YtmgpgbfgemebbaaGreatDoor
open Go.RowKit Go.Own Go.Sort Go.Shelf
theorem vN:∀ a b:List UInt8,Lib.compareBytes a b<0↔a<b
 | [],[]=>by simp[Lib.compareBytes]
 | [],_::_=>by simp[Lib.compareBytes]
 | _::_,[]=>by simp[Lib.compareBytes]
 | a::r,b::s=>by
  rw[Lib.compareBytes,List.cons_lt_cons_iff,←vN r s];by_cases h1:a<b
  ·simp[h1]
  ·by_cases h2:b<a
   ·have h3:a≠b:=by rintro rfl;exact absurd h2 (UInt8.lt_irrefl _)
    simp[h1,h2,h3]
   ·have h3:a=b:=UInt8.le_antisymm (UInt8.not_lt.1 h2) (UInt8.not_lt.1 h1);simp[h1,h3]
def cfS (x y:Sn):Int:=Lib.compareBytes x.ag y.ag
theorem yr (x y:Sn):ltOf cfS x y=ltStr x.ag y.ag:=by
 unfold ltOf cfS ltStr;rw[decide_eq_decide];exact vN _ _
theorem J7:SWO (ltOf cfS) where
 irrefl x:=by rw[yr];exact swo_ltStr.irrefl _
 trans x y z h1 h2:=by rw[yr] at *;exact swo_ltStr.trans _ _ _ h1 h2
 ntrans x y z h1 h2:=by rw[yr] at *;exact swo_ltStr.ntrans _ _ _ h1 h2
theorem j4:∀ os:List Sn,fM os=os.flatMap Sn.enc
 | []=>rfl
 | s::r=>by rw[fM,j4 r];rfl
instance:Inhabited Sn:=⟨⟨[],0,0,0,[],.slice none 0 0⟩⟩
theorem yZ (v:Value):(qk v).oneCell'=true:=by cases v <;> rfl
theorem Cl (x:Sn):∀ v∈x.enc,v.oneCell'=true:=by
 intro v hv;simp only[Sn.enc,List.mem_cons,List.not_mem_nil,or_false] at hv;rcases hv with rfl|rfl|rfl|rfl|rfl
 ·rfl
 ·rfl
 ·rfl
 ·rfl
 ·exact yZ _
theorem vE:vL:=by
 intro v os w L hne hl hO;have h:=fZ.1 hO;obtain⟨-,⟨-,h0,-,-⟩|⟨g,cap,cur,rfl,-,-,-,-,h4⟩⟩:=h.ao
 ·exact absurd (List.eq_nil_of_length_eq_zero h0) hne
 obtain⟨-,hcs,hfz,-⟩:=h.aE;have hH:HoldsK Sn.enc 5 w g 0 os.toArray:=by
  intro j hj;have hj':j<os.length*5:=by simpa using hj
  rw[Nat.zero_add];refine⟨?_,hfz j⟩;rw[hcs j hj',j4];have h1:=oW Sn.enc 5 (by decide) (fun _=>rfl) os.toArray;have h2:(os.flatMap Sn.enc)[j]? = (flatK Sn.enc 5 os.toArray).toList[j]? := by rw[h1]
  rw[h2,Array.getElem?_toList,Array.getElem?_eq_getElem hj,getElem!_pos _ j hj];rfl
 have eg:∀ args w,(callFunc 89 args).run Tryz.prog w=.ok (.enter 89 args) w:=enters_of Tryz.func89 (by kernel_rfl) rfl;have hcon:=AnyQ.slices_SortFunc Tryz.cR 5 Tryz.isAgg57 Tryz.sizeOf57 Sn.enc (fun _=>rfl) Cl cfS J7 89 #[] g 0 cap os.toArray w eg (fun _ _ _ _ x y=>Kb x y _) hH h4.lt (by simp;omega);refine Calls.mono (show zCl 88 #[.slice (some ⟨g,0,none⟩) os.length cap,.func (.func 89) #[] #[]] w _ from hcon) ?_;rintro e w' ⟨rfl,d',n,os2,hp,hs,rfl⟩;have hsz:d'.size=os.length:=by have:=hp.1;simpa using this
 have hpm:d'.toList.Perm os:=by
  have h1:=hp.2.2;have e1:d'.extract 0 os.toArray.size=d':=by
   rw[List.size_toArray,←hsz];simp
  have e2:os.toArray.extract 0 os.toArray.size=os.toArray:=by simp
  rw[e1,e2] at h1;simpa using h1
 refine⟨rfl,d'.toList,hpm,?_,?_,rfl,rfl,rfl,by simp[sortWorldK,Sort.grow,putRowK,Sort.putRow,Sort.mapBlock,Sort.ahead]⟩
 ·unfold Srt;rw[List.pairwise_iff_getElem];intro i j hi hj hij;have hi':i<d'.size:=by simpa using hi
  have hj':j<d'.size:=by simpa using hj
  have h1:=hs i j (Nat.zero_le _) hij (by rw[List.size_toArray,←hsz];exact hj');rw[getElem!_pos d' i hi',getElem!_pos d' j hj'] at h1;unfold ltOf at h1;rw[Array.getElem_toList,Array.getElem_toList];exact of_decide_eq_false h1
 ·have h5:=((Has.ahead h n).putRowK Sn.enc (by decide) (fun _=>rfl) (d:=d') hsz).grow os2;refine fZ.2 ?_;have e9:d'.toList.length=os.length:=by rw[Array.length_toList];exact hsz
  rw[j4,e9];exact h5.perm (.cons _ (List.Perm.append_right L (hpm.map _).symm))
def ls (t:List (Int×Nod)):Nat→Int→List Str→List (List Str×Int×Nod)
 | 0,_,_ => []
 | k+1,n,p=>(p,n,(fnd t n).getD qb)::((fnd t n).getD qb).ab.flatMap fun e=>ls t k e.2 (p ++ [e.1])
def yU (e:List Str×Int×Nod):Str×Int×Nod:=(orM (fm e.1),e.2.1,e.2.2)
theorem uJ (ps:List Str)(p:Str):fm (ps ++ [p])=fm ps++47::p:=by
 rw[lQ];simp[fm]
theorem zB (t:List (Int×Nod)):∀ (f:Nat) (n:Int) (ps:List Str),seen t f n (fm ps)=(ls t f n ps).map yU
 | 0,_,_=>rfl
 | f+1,n,ps=>by
  rw[seen,ls,List.map_cons,List.map_flatMap];congr 1
  ·refine congrArg (fun g=>List.flatMap g ((fnd t n).getD qb).ab) ?_;funext e;rw[←uJ];exact zB t f e.2 (ps ++ [e.1])
theorem Ce (t:List (Int×Nod))(f:Nat)(n:Int):seen t f n []=(ls t f n []).map yU:=zB t f n []
theorem lW (t:List (Int×Nod)):∀ (f:Nat) (n:Int) (ps:List Str),∀ e∈ls t f n ps,∃ qs,e.1=ps++qs
 | 0,_,_,e,he=>by cases he
 | f+1,n,ps,e,he=>by
  rw[ls] at he;rcases List.mem_cons.1 he with rfl|he
  ·exact⟨[],by simp⟩
  ·obtain⟨a,ha,h⟩:=List.mem_flatMap.1 he;obtain⟨qs,hq⟩:=lW t f a.2 (ps ++ [a.1]) e h;exact⟨a.1::qs,by rw[hq];simp⟩
theorem C0 {a b:List Str}(ha:∀ p∈a,p≠[]∧(47:UInt8)∉p)(hb:∀ p∈b,p≠[]∧(47:UInt8)∉p)(h:orM (fm a)=orM (fm b)):a=b:=by
 have hs:∀ l:List Str,(∀ p∈l,p≠[]∧(47:UInt8)∉p)→spl (orM (fm l))=if l = [] then [[],[]] else []::l:=by
  intro l hl;by_cases h0:l = []
  ·subst h0;rw[if_pos rfl];rfl
  ·rw[if_neg h0];unfold orM;rw[if_neg (sf h0)];exact nG l [] (by simp) fun p hp=>(hl p hp).2
 have h1:=hs a ha;have h2:=hs b hb;rw[h,h2] at h1;by_cases h0:a = []
 ·by_cases h3:b = []
  ·rw[h0,h3]
  ·rw[if_pos h0,if_neg h3] at h1;have:b = [[]]:=by simpa using h1
   exact absurd rfl (hb [] (by rw[this];simp)).1
 ·by_cases h3:b = []
  ·rw[if_neg h0,if_pos h3] at h1;have:a = [[]]:=by simpa using h1.symm
   exact absurd rfl (ha [] (by rw[this];simp)).1
  ·rw[if_neg h0,if_neg h3] at h1;simpa using h1.symm
variable {S:Tre} {rk:Int→Nat} {k:Nat}
theorem Gd.bl (h:Gd S rk k):∀ (f:Nat) (n:Int) (x:Nod) (pre:List Str),fnd S.ac n=some x→∀ e,e∈ls S.ac f n pre↔∃ qs,e.1=pre++qs∧qs.length<f∧S.goN n qs=some e.2.1∧fnd S.ac e.2.1=some e.2.2
 | 0,n,x,pre,hx,e=>by
  constructor
  ·intro he;cases he
  ·rintro⟨qs,_,h1,_⟩;exact absurd h1 (Nat.not_lt_zero _)
 | f+1,n,x,pre,hx,e=>by
  rw[ls,hx];simp only[Option.getD_some];rw[List.mem_cons,List.mem_flatMap];constructor
  ·rintro(rfl|⟨a,ha,he⟩)
   ·exact⟨[],by simp,by simp,rfl,hx⟩
   ·obtain⟨e1,e2,y,hy,e3⟩:=(h.ax hx).ai a ha;obtain⟨qs,h1,h2,h3,h4⟩:=(h.bl f a.2 y _ hy e).1 he;refine⟨a.1::qs,by rw[h1];simp,by simp only[List.length_cons];omega,?_,h4⟩;rw[Tre.goN,fC hx,gf (h.ax hx).uniq ha];exact h3
  ·rintro⟨qs,h1,h2,h3,h4⟩;cases qs with
   | nil =>
    left;cases h3;rw[List.append_nil] at h1;rw[hx] at h4;cases h4;exact Prod.ext h1 rfl
   | cons q qs =>
    right;rw[Tre.goN,fC hx] at h3;cases hf:fnd x.ab q with
    | none=>rw[hf] at h3;cases h3
    | some d =>
     rw[hf] at h3;obtain⟨e1,e2,y,hy,e3⟩:=(h.ax hx).ai _ (fj hf);refine⟨(q,d),fj hf,(h.bl f d y _ hy e).2 ⟨qs,by rw[h1];simp,by simp only[List.length_cons] at h2;omega,h3,h4⟩⟩
theorem Gd.aU (h:Gd S rk k):∀ (f:Nat) (n:Int) (x:Nod) (pre:List Str),fnd S.ac n=some x→(ls S.ac f n pre).Pairwise fun a b=>a.1≠b.1
 | 0,_,_,_,_=>List.Pairwise.nil
 | f+1,n,x,pre,hx=>by
  rw[ls,hx];simp only[Option.getD_some];rw[List.pairwise_cons];constructor
  ·intro e he;obtain⟨a,ha,h1⟩:=List.mem_flatMap.1 he;obtain⟨qs,hq⟩:=lW _ _ _ _ e h1;rw[hq];intro h2;have:=congrArg List.length h2;simp at this
  ·rw[List.pairwise_flatMap];constructor
   ·intro a ha;obtain⟨e1,e2,y,hy,e3⟩:=(h.ax hx).ai a ha;exact h.aU f a.2 y _ hy
   ·have hu:=(h.ax hx).uniq;unfold List.Nodup at hu;rw[List.pairwise_map] at hu;refine hu.imp ?_;intro a b hab u hu v hv e;obtain⟨q1,h1⟩:=lW _ _ _ _ u hu;obtain⟨q2,h2⟩:=lW _ _ _ _ v hv;rw[h1,h2,List.append_assoc,List.append_assoc] at e;have:=List.append_cancel_left e;simp at this;exact hab this.1
def iL (S:Tre):List (List Str×Int×Nod):=ls S.ac 22 1 []
theorem jw (S:Tre):seen S.ac 22 1 []=(iL S).map yU:=Ce _ _ _
theorem Gd.bh (h:Gd S rk k)(e:List Str×Int×Nod):e∈iL S↔S.goN 1 e.1=some e.2.1∧fnd S.ac e.2.1=some e.2.2:=by
 obtain⟨x1,hx1⟩:=h.x.has1;unfold iL;rw[h.bl 22 1 x1 [] hx1];constructor
 ·rintro⟨qs,h1,_,h2,h3⟩;rw[List.nil_append] at h1;subst h1;exact⟨h2,h3⟩
 ·rintro⟨h1,h2⟩;refine⟨e.1,by simp,?_,h1,h2⟩;obtain⟨y,hy,h3,_⟩:=h.aT e.1 1 x1 hx1 _ h1;have:=h.x.rk20 e.2.1;rw[h.x.rk1] at h3;omega
theorem Gd.bO (h:Gd S rk k){e:List Str×Int×Nod}(he:e∈iL S):(∀ p∈e.1,kZ p)∧e.1.length≤20:=by
 obtain⟨x1,hx1⟩:=h.x.has1;obtain⟨h1,h2⟩:=(h.bh e).1 he;obtain⟨y,hy,h3,h4,_⟩:=h.aT e.1 1 x1 hx1 _ h1;have:=h.x.rk20 e.2.1;rw[h.x.rk1] at h3;exact⟨h4,by omega⟩
theorem Gd.bY (h:Gd S rk k):((iL S).map yU).Pairwise fun a b=>a.1≠b.1:=by
 obtain⟨x1,hx1⟩:=h.x.has1;rw[List.pairwise_map];have h1:=h.aU 22 1 x1 [] hx1;refine List.Pairwise.imp_of_mem ?_ h1;intro a b ha hb hab e;refine hab (C0 (fun p hp=>?_) (fun p hp=>?_) e)
 ·have:=(h.bO ha).1 p hp;exact⟨this.1,this.2.2.1⟩
 ·have:=(h.bO hb).1 p hp;exact⟨this.1,this.2.2.1⟩
theorem BO {a b:Str}(h1:¬ Lib.compareBytes b a<0)(h2:¬ Lib.compareBytes a b<0):a=b:=by
 rw[vN] at h1 h2;exact List.le_antisymm (List.not_lt.1 h1) (List.not_lt.1 h2)
theorem Gd.cL (h:Gd S rk k){os os':List Sn}(h1:(os.map Sn.key).Perm ((seen S.ac 22 1 []).map jQ))(h2:(os'.map Sn.key).Perm ((seen S.ac 22 1 []).map jQ))(s1:Srt os)(s2:Srt os'):os.map Sn.key=os'.map Sn.key:=by
 have hp:=h.bY;rw[jw] at h1 h2;have hk:((iL S).map yU |>.map jQ).Pairwise fun a b=>a.1≠b.1:=by
  rw[List.pairwise_map];exact hp
 have hk1:(os.map Sn.key).Pairwise fun a b=>a.1≠b.1:=h1.symm.pairwise hk fun h=>Ne.symm h;have hm:∀ a∈os.map Sn.key,∀ b∈os.map Sn.key,a.1=b.1→a=b:=by
  intro a ha b hb hab;refine Classical.byContradiction fun hne=>?_;obtain⟨l1,l2,e⟩:=List.append_of_mem ha;rw[e] at hb hk1;rcases List.mem_append.1 hb with hb|hb
  ·exact(List.pairwise_append.1 hk1).2.2 b hb a List.mem_cons_self hab.symm
  ·rcases List.mem_cons.1 hb with hb|hb
   ·exact hne hb.symm
   ·exact(List.pairwise_cons.1 (List.pairwise_append.1 hk1).2.1).1 b hb hab
 have t1:(os.map Sn.key).Pairwise fun a b=>¬ Lib.compareBytes b.1 a.1<0:=List.pairwise_map.2 s1;have t2:(os'.map Sn.key).Pairwise fun a b=>¬ Lib.compareBytes b.1 a.1<0:=List.pairwise_map.2 s2;have h12:=h1.trans h2.symm;exact h12.eq_of_pairwise (fun a b ha hb x y=>hm a ha b (h12.mem_iff.2 hb) (BO x y)) t1 t2
theorem Gd.cO (h:Gd S rk k){os:List Sn}(h1:(os.map Sn.key).Perm ((seen S.ac 22 1 []).map jQ)):os.length=(iL S).length:=by
 have:=h1.length_eq;rw[List.length_map,List.length_map,jw,List.length_map] at this;exact this
end Go.Proofs.YtmgpgbfgemebbaaGreatDoor
namespace Go.Proofs.YtmgpgbfgemebbaaGreatDoor
open Go.RowKit Go.Own
def ul (os:List Sn):Prop:=os.Pairwise fun a b=>¬ b.ag<a.ag
theorem Da {os:List Sn}(h:ul os):Srt os:=h.imp fun h1 h2=>h1 ((vN _ _).1 h2)
theorem yS {os:List Sn}(h:ul os)(x:Sn){k:Nat}(hk:k≤os.length)(h1:∀ j (hj:j<os.length),k≤j→x.ag<os[j].ag)(h2:∀ hk0:0<k,¬ x.ag<(os[k-1]'(by omega)).ag):ul (os.take k ++ [x]++os.drop k):=by
 have hs:ul (os.take k++os.drop k):=by rw[List.take_append_drop];exact h
 unfold ul at hs ⊢;rw[List.pairwise_append] at hs;obtain⟨s1,s2,s3⟩:=hs;rw[List.append_assoc,List.pairwise_append];refine⟨s1,?_,?_⟩
 ·rw[List.singleton_append,List.pairwise_cons];refine⟨fun b hb=>?_,s2⟩;obtain⟨i,hi,rfl⟩:=List.getElem_of_mem hb;rw[List.getElem_drop];intro hlt;rw[List.length_drop] at hi;exact List.lt_irrefl _ (List.lt_trans hlt (h1 (k+i) (by omega) (by omega)))
 ·intro a ha b hb;rw[List.singleton_append,List.mem_cons] at hb;rcases hb with rfl|hb
  ·obtain⟨i,hi,rfl⟩:=List.getElem_of_mem ha;rw[List.length_take] at hi;rw[List.getElem_take];have hk0:0<k:=by omega
   by_cases e:i=k-1
   ·subst e;exact h2 hk0
   ·intro hlt;have h3:=(List.pairwise_iff_getElem.1 h) i (k-1) (by omega) (by omega) (by omega);apply h2 hk0;rcases Std.lt_trichotomy os[i].ag (os[k-1]'(by omega)).ag with h4|h4|h4
    ·exact List.lt_trans hlt h4
    ·rw[←h4];exact hlt
    ·exact absurd h4 h3
  ·exact s3 a ha b hb
theorem y7 {α:Type} (os:List α) (x:α) (k:Nat):(os.take k ++ [x]++os.drop k).Perm (os ++ [x]):=by
 rw[List.append_assoc,List.singleton_append];refine List.perm_middle.trans ?_;rw[List.take_append_drop];exact(List.perm_append_singleton _ _).symm
variable {S:Tre} {rk:Int→Nat} {k:Nat}
end Go.Proofs.YtmgpgbfgemebbaaGreatDoor
namespace Go.Proofs.YtmgpgbfgemebbaaGreatDoor
open Go.RowKit Go.Own
def wkB (S:Tre):Bool:=(fnd S.ac 1).isSome&&S.ac.all fun p=>(p.2.ab.all fun e=>(fnd S.ac e.2).isSome)&&(decide (p.2.above=0)||(fnd S.ac p.2.above).isSome)&&decide (p.2.data.length≤100000)&&decide (p.2.wr.length≤100000)&&decide (p.2.ab.length<1000000)
def wyB (S:Tre)(rk:Int→Nat):Bool:=S.ac.all fun p=>decide (p.1=1)||decide (p.2.above=0)||match fnd S.ac p.2.above with
 | none=>false
 | some y=>match y.ab.filter fun e=>decide (e.2=p.1) with
  | [e]=>decide (rk p.2.above<rk p.1)&&decide (e.1.length≤24)&&decide (e.2=p.1)
  | _=>false
def Cq (S:Tre):Bool:=decide (0≤S.last)&&decide (S.last<1000000)&&(fnd S.ac (S.last+1)).isNone&&decide (S.ac.length<1000000)&&(fnd S.ac 0).isNone
theorem kK {S:Tre}(h:wkB S=true):Wk S∧∀ n x,fnd S.ac n=some x→x.data.length≤100000∧x.wr.length≤100000∧x.ab.length<1000000:=by
 unfold wkB at h;rw[Bool.and_eq_true,List.all_eq_true] at h;obtain⟨h1,h2⟩:=h;have h3:∀ n x,fnd S.ac n=some x→(∀ e∈x.ab,(fnd S.ac e.2).isSome=true)∧(x.above=0∨(fnd S.ac x.above).isSome=true)∧x.data.length≤100000∧x.wr.length≤100000∧x.ab.length<1000000:=by
  intro n x hx;have h4:=h2 _ (fj hx);simpa[and_assoc] using h4
 refine⟨⟨Option.isSome_iff_exists.1 h1,fun n x hx p c hc=>?_,fun n x hx h0=>?_,fun n x hx _=>(h3 n x hx).2.2.1⟩,fun n x hx=>(h3 n x hx).2.2⟩
 ·exact Option.isSome_iff_exists.1 ((h3 n x hx).1 _ (fj hc))
 ·rcases(h3 n x hx).2.1 with h|h
  ·exact absurd h h0
  ·exact Option.isSome_iff_exists.1 h
theorem Dm {S:Tre}{rk:Int→Nat}(h:wyB S rk=true)(hl:∀ n,rk n≤20):Wy S rk:=by
 refine⟨fun n x hx h1 h0=>?_,hl⟩;unfold wyB at h;have h4:=(List.all_eq_true.1 h) _ (fj hx);dsimp only at h4;rw[decide_eq_false h1,decide_eq_false h0,Bool.false_or,Bool.false_or] at h4;split at h4
 ·cases h4
 ·rename_i y hy;split at h4
  ·rename_i e he;simp only[Bool.and_eq_true,decide_eq_true_eq] at h4;exact⟨y,e.1,hy,by rw[he,←h4.2],h4.1.1,h4.1.2⟩
  ·cases h4
theorem y3 {S:Tre}(h:Cq S=true)(h2:wkB S=true):Opb S:=by
 unfold Cq at h;simp only[Bool.and_eq_true,decide_eq_true_eq,Option.isNone_iff_eq_none] at h;exact⟨h.1.1.1.1,h.1.1.1.2,h.1.1.2,h.1.2,h.2,(kK h2).2⟩
def I0 (S:Tre):Bool:=S.ak.all fun s => !s.on||((fnd S.ac s.ae).isSome&&decide (0≤s.off)&&decide (s.off≤2000000000000)&&decide ((S.at_ s.ae).aa≠3))
theorem zg {T:List Tb.Slot}{fd:Int}{s:Tb.Slot}(h:Tb.look T fd=some s):s∈T∧s.on=true:=by
 unfold Tb.look at h;by_cases hr:0≤fd∧fd<16
 ·rw[if_pos hr] at h;cases ht:T[fd.toNat]? with
  | none=>rw[ht] at h;cases h
  | some t =>
   rw[ht] at h;dsimp only at h;by_cases hon:t.on=true
   ·rw[if_pos hon] at h;cases h;exact⟨List.mem_of_getElem? ht,hon⟩
   ·rw[if_neg hon] at h;cases h
 ·rw[if_neg hr] at h;cases h
theorem D7 {S:Tre}(h:I0 S=true)(h2:wkB S=true):Opn S:=by
 have h3:∀ fd s,Tb.look S.ak fd=some s→(∃ x,fnd S.ac s.ae=some x)∧(0≤s.off∧s.off≤2000000000000)∧(S.at_ s.ae).aa≠3:=by
  intro fd s hs;obtain⟨h4,h5⟩:=zg hs;have h6:=(List.all_eq_true.1 h) s h4;rw[h5] at h6;simp only[Bool.not_true,Bool.false_or,Bool.and_eq_true,decide_eq_true_eq] at h6;exact⟨Option.isSome_iff_exists.1 h6.1.1.1,⟨h6.1.1.2,h6.1.2⟩,h6.2⟩
 exact⟨fun fd s hs=>(h3 fd s hs).1,fun fd s hs=>(h3 fd s hs).2.1,fun n x hx=>((kK h2).2 n x hx).1,fun n x hx=>((kK h2).2 n x hx).2.1,fun fd s hs=>(h3 fd s hs).2.2⟩
abbrev nA:Str := [97]
abbrev pA:Str := [47,97]
abbrev pAF:Str := [47,97,47,102]
abbrev pB:Str := [47,98]
def Ib (s:Tb.Slot):List Tb.Slot:=s::List.replicate 15 Tb.none4
def treE1:Tre:=⟨[(1,⟨2,[],[],[(nA,2)],1,1,0⟩),(2,⟨2,[],[],[],0,1,1⟩)],2,List.replicate 16 Tb.none4⟩
def treE2:Tre:=⟨[(1,⟨2,[],[],[(nA,2)],1,1,0⟩),(2,⟨2,[],[],[(nF,3)],1,1,1⟩),(3,⟨1,[],[],[],0,1,0⟩)],3,Ib ⟨3,0,33,true⟩⟩
def treE3:Tre:=⟨[(1,⟨2,[],[],[(nA,2)],1,1,0⟩),(2,⟨2,[],[],[(nF,3)],1,1,1⟩),(3,⟨1,[120,121,122],[true],[],0,1,0⟩)],3,Ib ⟨3,3,33,true⟩⟩
def rkA (n:Int):Nat:=if n=3 then 2 else if n=2 then 1 else 0
theorem rv (n:Int):rkA n≤20:=by unfold rkA;split <;> (try split) <;> omega
theorem Ab:fb pA=([nA],0):=by decide +kernel
theorem xI:fb pAF=([nA,nF],0):=by decide +kernel
theorem yX:fb pB=([[98]],0):=by decide +kernel
theorem BS:fx pA=([47],nA,0):=by decide +kernel
theorem y9:fx pAF=(pA,nF,0):=by decide +kernel
theorem GL:wkB tre0=true:=by decide +kernel
theorem FV:wkB treE1=true:=by decide +kernel
theorem Km:wkB treE2=true:=by decide +kernel
theorem tK:wkB treE3=true:=by decide +kernel
theorem LW:wyB tre0 rkA=true:=by decide +kernel
theorem KA:wyB treE1 rkA=true:=by decide +kernel
theorem F7:Cq tre0=true:=by decide +kernel
theorem I2:Cq treE1=true:=by decide +kernel
theorem GN:I0 treE2=true:=by decide +kernel
theorem Bu:tre0.place pA=(⟨0,1,nA⟩,0):=by
 unfold Tre.place;rw[BS,if_neg (by simp),xV,if_neg (by simp),if_neg (by decide +kernel),if_neg (by decide +kernel)];rfl
theorem B6:tre0.aF pA=(eQ 0,treE1):=by
 unfold Tre.aF Tre.fresh;rw[Bu];rfl
theorem zx (S:Tre)(fo:Bool)(h1:(S.at_ 1).aa=2)(h2:fnd (S.at_ 1).ab nA=some 2)(h3:(S.at_ 2).aa=2):S.find pA fo=(⟨2,1,nA⟩,0):=by
 unfold Tre.find;rw[Ab,if_neg (by simp)];show S.walk ⟨1,0,[]⟩ 0 [nA] fo=_;rw[Tre.walk,if_neg (by rw[h1];decide),if_neg (by decide)];dsimp only;rw[h2];dsimp only;rw[if_neg (by rw[h3];simp),Tre.walk]
theorem Bp (S:Tre)(fo:Bool)(h1:(S.at_ 1).aa=2)(h2:fnd (S.at_ 1).ab nA=some 2)(h3:(S.at_ 2).aa=2)(h4:fnd (S.at_ 2).ab nF=some 3)(h5:(S.at_ 3).aa=1):S.find pAF fo=(⟨3,2,nF⟩,0):=by
 unfold Tre.find;rw[xI,if_neg (by simp)];show S.walk ⟨1,0,[]⟩ 0 [nA,nF] fo=_;rw[Tre.walk,if_neg (by rw[h1];decide),if_neg (by decide)];dsimp only;rw[h2];dsimp only;rw[if_neg (by rw[h3];simp),Tre.walk,if_neg (by rw[h3];decide),if_neg (by decide)];dsimp only;rw[h4];dsimp only;rw[if_neg (by rw[h5];simp),Tre.walk]
theorem Ex (S:Tre)(fo:Bool)(h1:(S.at_ 1).aa=2)(h2:fnd (S.at_ 1).ab [98]=none):S.find pB fo=(fp,5):=by
 unfold Tre.find;rw[yX,if_neg (by simp)];show S.walk ⟨1,0,[]⟩ 0 [[98]] fo=_;rw[Tre.walk,if_neg (by rw[h1];decide),if_neg (by decide)];dsimp only;rw[h2]
theorem zY:treE1.place pAF=(⟨0,2,nF⟩,0):=by
 unfold Tre.place;rw[y9,if_neg (by simp)];dsimp only;rw[zx treE1 true rfl rfl rfl,if_neg (by simp),if_neg (by decide +kernel),if_neg (by decide +kernel)];rfl
theorem Cf:treE1.aw pAF 33=(⟨0,0,0,0,[],[]⟩,treE2):=by
 unfold Tre.aw;rw[if_neg (by decide +kernel),if_pos (by decide +kernel),zY,if_neg (by simp),if_neg (by simp),if_neg (by decide)];unfold Tre.ar;rw[if_neg (by simp),if_neg (by decide +kernel)];rfl
theorem A5:treE2.write 4 0 0 [120,121,122]=(⟨0,3,0,0,[],[]⟩,treE3):=by
 unfold Tre.write;rfl
theorem Cx:treE3.stat pAF true=⟨0,3,1,1,[],[]⟩:=by
 unfold Tre.stat;rw[Bp treE3 true rfl rfl rfl rfl rfl];rfl
theorem Fp:treE3.stat pB true=eQ 5:=by
 unfold Tre.stat;rw[Ex treE3 true rfl rfl];rfl
theorem Au:(treE3.find pA false).1.ae=2:=by rw[zx treE3 false rfl rfl rfl]
theorem EG:oB treE3.ac=3:=by decide +kernel
theorem yC:(seen treE3.ac 22 1 []).length=3:=by decide +kernel
theorem GG:∀ n x,fnd treE3.ac n=some x→rkA n≤21:=fun n _ _=>by have:=rv n;omega
theorem Lr:∀ n x,fnd treE3.ac n=some x→∀ e∈x.ab,rkA n<rkA e.2∧e.1.length≤24∧∃ y,fnd treE3.ac e.2=some y:=by
 have h:(treE3.ac.all fun p=>p.2.ab.all fun e=>decide (rkA p.1<rkA e.2)&&decide (e.1.length≤24)&&(fnd treE3.ac e.2).isSome)=true:=by decide +kernel
 intro n x hx e he;have h1:=(List.all_eq_true.1 ((List.all_eq_true.1 h) _ (fj hx))) e he;simp only[Bool.and_eq_true,decide_eq_true_eq] at h1;exact⟨h1.1.1,h1.1.2,Option.isSome_iff_exists.1 h1.2⟩
theorem uv:∀ n x,fnd treE3.ac n=some x→0≤x.most∧x.most≤1000000∧x.wr.length≤6:=by
 have h:(treE3.ac.all fun p=>decide (0≤p.2.most)&&decide (p.2.most≤1000000)&&decide (p.2.wr.length≤6))=true:=by decide +kernel
 intro n x hx;have h1:=(List.all_eq_true.1 h) _ (fj hx);simp only[Bool.and_eq_true,decide_eq_true_eq] at h1;exact⟨h1.1.1,h1.1.2,h1.2⟩
def Oi (s t:Tb.Slot):List Tb.Slot:=s::t::List.replicate 14 Tb.none4
section
variable {d:List Int} {wr:List Bool} {T:List Tb.Slot} {fd:Int} {s:Tb.Slot}
def GP (d:List Int)(size:Nat):List Int:=if size≤d.length then d.take size else d++List.replicate (size-d.length) 0
def Ie (d:List Int)(wr:List Bool)(size:Nat):List Bool:=if size≤d.length then wr.take (fk size) else wr
def wrD (d:List Int)(o:Nat)(ds:List Int):List Int:=(GP d (max d.length (o+ds.length))).take o++ds++(GP d (max d.length (o+ds.length))).drop (o+ds.length)
def wrW (d:List Int)(wr:List Bool)(o:Nat)(ds:List Int):List Bool:=iJ (Ie d wr (max d.length (o+ds.length))++List.replicate (fk (o+ds.length)-(Ie d wr (max d.length (o+ds.length))).length) false) (o / 128) (fk (o+ds.length))
def wrO (d:List Int)(s:Tb.Slot):Int:=if fc s.af 8≠0 then(d.length:Int) else s.off
end
abbrev opW (k fd n off fl:Int)(p:Str)(dv:Value):Value := .agg #[.int .i64 k,.int .i64 fd,.int .i64 n,.int .i64 off,.int .i64 fl,.string ⟨p.toArray⟩,.string ⟨#[]⟩,dv]
section
variable (a b c d:Int) (x y:Value) (w:World)
end
theorem Ed (q:Nat)(S:Tre)(fd n off af:Int)(ag aj:Str)(ov:Value)(w:World)(L:List HP)(rk:Int→Nat)(mx:Int)(hW:Wk S)(hY:Wy S rk)(hB:Opb S)(hM:MxL mx L)(hp:ag.length≤100000)(CP:fc af 4=0)(hO:Has w (Trc q S::L)) :
  zCl 16 #[.pointer (some ⟨q,0,none⟩),opV ⟨1,fd,n,off,af,ag,aj⟩ (ov)] w fun e w'=>e=.returned (fL (S.aw ag af).1 eS eS)∧Has w' (Trc q (S.aw ag af).2::L)∧Keep w w':=by
 have HX0:=(fun(w:World)(L':List HP)(hM:MxL mx L')(hO:Has w (Trc q S::L'))=>IH q S rk ⟨1,fd,n,off,af,ag,aj⟩ ov mx w L' hW hY hB hM hp CP hO)
 dsimp only at HX0;have HX:=hid HX0;clear HX0;have HM:=hid hM;clear hM;generalize S.aw ag af=R at *;have HO:=hid hO;clear hO;unfold opV opC at HX ⊢;exact zcD
end Go.Proofs.YtmgpgbfgemebbaaGreatDoor
