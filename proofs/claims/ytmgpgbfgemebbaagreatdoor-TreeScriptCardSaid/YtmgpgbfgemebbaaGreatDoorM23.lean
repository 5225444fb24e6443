/- TEXTS of mine, merged. -/
import Derived.Test.YtmgpgbfgemebbaaGreatDoorM0
import Derived.Test.YtmgpgbfgemebbaaGreatDoorM19
import Derived.Test.YtmgpgbfgemebbaaGreatDoorM21
import Derived.Test.YtmgpgbfgemebbaaGreatDoorM22
set_option linter.all false
set_option maxRecDepth 100000
set_option maxHeartbeats 16000000
namespace Go.Proofs.YtmgpgbfgemebbaaGreatDoor
open Go.RowKit Go.Own
def RDo (q:Nat)(S:Tre)(rk:Int→Nat)(k:Nat)(o:Opm)(w:World)(L:List HP)(po:Option Addr)(co:Nat)(ds:List Int):Prop :=
 k≤900→Gd S rk k→o.ag.length≤100000→o.aj.length≤100000→(o.off≤9223372036854775807∧-9223372036854775808≤o.off)→ds.length≤100000→(∀ w',Has w' L→Rd w' (.slice po ds.length co) 1 ds.length (bc ds))→Has w (Rts q S::L) →
  zCl 18 #[.pointer (some ⟨q,0,none⟩),opV o (.slice po ds.length co)] w fun e w'=>∃ dv nv,e=.returned (fL (S.aD o ds).1 dv nv)∧Has w' (Bytes dv (S.aD o ds).1.data::Strs nv (S.aD o ds).1.ab::Rts q (S.aD o ds).2::L)∧Keep w w'
def RC (f:FuncId)(q:Nat)(S:Tre)(o:Opm)(po:Option Addr)(co:Nat)(ds:List Int)(A:Ans×Tre):Prop:=∀ (w:World) (L:List HP),(∀ w',Has w' L→Rd w' (.slice po ds.length co) 1 ds.length (bc ds))→Has w (Rts q S::L) →
 Calls Tryz.prog f #[.pointer (some ⟨q,0,none⟩),opV o (.slice po ds.length co)] w fun e w'=>∃ dv nv,e=.returned (fL A.1 dv nv)∧Has w' (Bytes dv A.1.data::Strs nv A.1.ab::Rts q A.2::L)∧Keep w w'
theorem hI {w:World}{L:List HP}{q:Nat}{a:Ans}{S:Tre}(hb:li a)(h:Has w (Rts q S::L)):Has w (Bytes eS a.data::Strs eS a.ab::Rts q S::L):=by
 rw[hb.1,hb.2];exact(h.al gx 1).al 5 1
section
variable {q:Nat} {S:Tre} {rk:Int→Nat} {k:Nat} {o:Opm} {w:World} {L:List HP} {po:Option Addr} {co:Nat} {ds:List Int}
theorem Ml (hkd:o.aa=1):RDo q S rk k o w L po co ds:=by
 intro hk hG hp ku hof hds hrd hO;have tF:Hid (RC 64 q S o po co ds (S.aw o.ag o.af)):=hid fun w L' hr h=>by
  refine(I9 q S rk k o (.slice po ds.length co) w L' hk hG hp h).mono ?_;rintro e w' ⟨h1,h2,h3⟩;try rw[hkd] at h1 h2
  exact⟨eS,eS,h1,hI (nC _ _ _) h2,h3⟩
 have HR:=hid (by unfold Tre.aD;simp[hkd]:S.aD o ds=S.aw o.ag o.af);rw[HR.out];generalize S.aw o.ag o.af=AA at *;obtain⟨A,S'⟩:=AA;dsimp only;have ir:=hid hrd;clear HR;have jG:=kbT hkd 1;exact zaa
theorem Lh (hkd:o.aa=3):RDo q S rk k o w L po co ds:=by
 intro hk hG hp ku hof hds hrd hO;have tF:Hid (RC 67 q S o po co ds (S.read 3 o.fd o.n o.off)):=hid fun w L' hr h=>by
  refine(Bc q S rk k o (.slice po ds.length co) w L' hk hG (.inl hkd) hof.1 h).mono ?_;exact zck
 have HR:=hid (by unfold Tre.aD;simp[hkd]:S.aD o ds=S.read 3 o.fd o.n o.off);rw[HR.out];generalize S.read 3 o.fd o.n o.off=AA at *;obtain⟨A,S'⟩:=AA;dsimp only;have ir:=hid hrd;clear HR;have jG:=kbF hkd 1;have hkb2:=kbF hkd 2;have jL:=kbT hkd 3;exact zaa
theorem K0 (hkd:o.aa=4):RDo q S rk k o w L po co ds:=by
 intro hk hG hp ku hof hds hrd hO;have tF:Hid (RC 68 q S o po co ds (S.write 4 o.fd o.off ds)):=hid fun w L' hr h=>by
  refine(uR q S rk k o (.slice po ds.length co) w L' hk hG po co ds rfl (.inl hkd) hof (by omega) hr h).mono ?_;exact zcz
 have HR:=hid (by unfold Tre.aD;simp[hkd]:S.aD o ds=S.write 4 o.fd o.off ds);rw[HR.out];generalize S.write 4 o.fd o.off ds=AA at *;obtain⟨A,S'⟩:=AA;dsimp only;have ir:=hid hrd;clear HR;have jG:=kbF hkd 1;have hkb2:=kbF hkd 2;have jL:=kbF hkd 3;have kp:=kbT hkd 4;exact zaa
theorem Lw (hkd:o.aa=5):RDo q S rk k o w L po co ds:=by
 intro hk hG hp ku hof hds hrd hO;have tF:Hid (RC 67 q S o po co ds (S.read 5 o.fd o.n o.off)):=hid fun w L' hr h=>by
  refine(Bc q S rk k o (.slice po ds.length co) w L' hk hG (.inr hkd) hof.1 h).mono ?_;exact zck
 have HR:=hid (by unfold Tre.aD;simp[hkd]:S.aD o ds=S.read 5 o.fd o.n o.off);rw[HR.out];generalize S.read 5 o.fd o.n o.off=AA at *;obtain⟨A,S'⟩:=AA;dsimp only;have ir:=hid hrd;clear HR;have jG:=kbF hkd 1;have hkb2:=kbF hkd 2;have jL:=kbF hkd 3;have kp:=kbF hkd 4;have kT:=kbT hkd 5;exact zaa
theorem LF (hkd:o.aa=6):RDo q S rk k o w L po co ds:=by
 intro hk hG hp ku hof hds hrd hO;have tF:Hid (RC 68 q S o po co ds (S.write 6 o.fd o.off ds)):=hid fun w L' hr h=>by
  refine(uR q S rk k o (.slice po ds.length co) w L' hk hG po co ds rfl (.inr hkd) hof (by omega) hr h).mono ?_;exact zcz
 have HR:=hid (by unfold Tre.aD;simp[hkd]:S.aD o ds=S.write 6 o.fd o.off ds);rw[HR.out];generalize S.write 6 o.fd o.off ds=AA at *;obtain⟨A,S'⟩:=AA;dsimp only;have ir:=hid hrd;clear HR;have jG:=kbF hkd 1;have hkb2:=kbF hkd 2;have jL:=kbF hkd 3;have kp:=kbF hkd 4;have kT:=kbF hkd 5;have ln:=kbT hkd 6;exact zaa
theorem Lv (hkd:o.aa=7):RDo q S rk k o w L po co ds:=by
 intro hk hG hp ku hof hds hrd hO;have tF:Hid (RC 69 q S o po co ds (S.aG o.fd o.n o.off)):=hid fun w L' hr h=>by
  refine(Ew q S rk k o (.slice po ds.length co) w L' hk hG  h).mono ?_;rintro e w' ⟨h1,h2,h3⟩;try rw[hkd] at h1 h2
  exact⟨eS,eS,h1,hI (nH _ _ _ _) h2,h3⟩
 have HR:=hid (by unfold Tre.aD;simp[hkd]:S.aD o ds=S.aG o.fd o.n o.off);rw[HR.out];generalize S.aG o.fd o.n o.off=AA at *;obtain⟨A,S'⟩:=AA;dsimp only;have ir:=hid hrd;clear HR;have jG:=kbF hkd 1;have hkb2:=kbF hkd 2;have jL:=kbF hkd 3;have kp:=kbF hkd 4;have kT:=kbF hkd 5;have ln:=kbF hkd 6;have lG:=kbT hkd 7;exact zaa
theorem Kh (hkd:o.aa=8):RDo q S rk k o w L po co ds:=by
 intro hk hG hp ku hof hds hrd hO;have tF:Hid (RC 70 q S o po co ds (S.trunc o.fd o.off)):=hid fun w L' hr h=>by
  refine(Fm q S rk k o (.slice po ds.length co) w L' hk hG  h).mono ?_;rintro e w' ⟨h1,h2,h3⟩;try rw[hkd] at h1 h2
  exact⟨eS,eS,h1,hI (md _ _ _) h2,h3⟩
 have HR:=hid (by unfold Tre.aD;simp[hkd]:S.aD o ds=S.trunc o.fd o.off);rw[HR.out];generalize S.trunc o.fd o.off=AA at *;obtain⟨A,S'⟩:=AA;dsimp only;have ir:=hid hrd;clear HR;have jG:=kbF hkd 1;have hkb2:=kbF hkd 2;have jL:=kbF hkd 3;have kp:=kbF hkd 4;have kT:=kbF hkd 5;have ln:=kbF hkd 6;have lG:=kbF hkd 7;have l3:=kbT hkd 8;exact zaa
theorem LB (hkd:o.aa=9):RDo q S rk k o w L po co ds:=by
 intro hk hG hp ku hof hds hrd hO;have tF:Hid (RC 72 q S o po co ds (S.aF o.ag)):=hid fun w L' hr h=>by
  refine(Fl q S rk k o (.slice po ds.length co) w L' hk hG hkd hp h).mono ?_;rintro e w' ⟨h1,h2,h3⟩;try rw[hkd] at h1 h2
  exact⟨eS,eS,h1,hI (mn _ _) h2,h3⟩
 have HR:=hid (by unfold Tre.aD;simp[hkd]:S.aD o ds=S.aF o.ag);rw[HR.out];generalize S.aF o.ag=AA at *;obtain⟨A,S'⟩:=AA;dsimp only;have ir:=hid hrd;clear HR;have jG:=kbF hkd 1;have hkb2:=kbF hkd 2;have jL:=kbF hkd 3;have kp:=kbF hkd 4;have kT:=kbF hkd 5;have ln:=kbF hkd 6;have lG:=kbF hkd 7;have l3:=kbF hkd 8;have lj:=kbT hkd 9;exact zaa
theorem Gl (hkd:o.aa=10):RDo q S rk k o w L po co ds:=by
 intro hk hG hp ku hof hds hrd hO;have tF:Hid (RC 71 q S o po co ds (S.remove 10 o.ag)):=hid fun w L' hr h=>by
  refine(Dw q S rk k o (.slice po ds.length co) w L' hk hG (.inl hkd) hp h).mono ?_;exact zcA
 have HR:=hid (by unfold Tre.aD;simp[hkd]:S.aD o ds=S.remove 10 o.ag);rw[HR.out];generalize S.remove 10 o.ag=AA at *;obtain⟨A,S'⟩:=AA;dsimp only;have ir:=hid hrd;clear HR;have jG:=kbF hkd 1;have hkb2:=kbF hkd 2;have jL:=kbF hkd 3;have kp:=kbF hkd 4;have kT:=kbF hkd 5;have ln:=kbF hkd 6;have lG:=kbF hkd 7;have l3:=kbF hkd 8;have lj:=kbF hkd 9;have kq:=kbT hkd 10;exact zaa
theorem GW (hkd:o.aa=11):RDo q S rk k o w L po co ds:=by
 intro hk hG hp ku hof hds hrd hO;have tF:Hid (RC 71 q S o po co ds (S.remove 11 o.ag)):=hid fun w L' hr h=>by
  refine(Dw q S rk k o (.slice po ds.length co) w L' hk hG (.inr hkd) hp h).mono ?_;exact zcA
 have HR:=hid (by unfold Tre.aD;simp[hkd]:S.aD o ds=S.remove 11 o.ag);rw[HR.out];generalize S.remove 11 o.ag=AA at *;obtain⟨A,S'⟩:=AA;dsimp only;have ir:=hid hrd;clear HR;have jG:=kbF hkd 1;have hkb2:=kbF hkd 2;have jL:=kbF hkd 3;have kp:=kbF hkd 4;have kT:=kbF hkd 5;have ln:=kbF hkd 6;have lG:=kbF hkd 7;have l3:=kbF hkd 8;have lj:=kbF hkd 9;have kq:=kbF hkd 10;have kH:=kbT hkd 11;exact zaa
theorem Hd (hkd:o.aa=12):RDo q S rk k o w L po co ds:=by
 intro hk hG hp ku hof hds hrd hO;have tF:Hid (RC 72 q S o po co ds (S.link o.ag o.aj)):=hid fun w L' hr h=>by
  refine(I7 q S rk k o (.slice po ds.length co) w L' hk hG hkd hp ku h).mono ?_;rintro e w' ⟨h1,h2,h3⟩;try rw[hkd] at h1 h2
  exact⟨eS,eS,h1,hI (ng _ _ _) h2,h3⟩
 have HR:=hid (by unfold Tre.aD;simp[hkd]:S.aD o ds=S.link o.ag o.aj);rw[HR.out];generalize S.link o.ag o.aj=AA at *;obtain⟨A,S'⟩:=AA;dsimp only;have ir:=hid hrd;clear HR;have jG:=kbF hkd 1;have hkb2:=kbF hkd 2;have jL:=kbF hkd 3;have kp:=kbF hkd 4;have kT:=kbF hkd 5;have ln:=kbF hkd 6;have lG:=kbF hkd 7;have l3:=kbF hkd 8;have lj:=kbF hkd 9;have kq:=kbF hkd 10;have kH:=kbF hkd 11;have j0:=kbT hkd 12;exact zaa
theorem Il (hkd:o.aa=13):RDo q S rk k o w L po co ds:=by
 intro hk hG hp ku hof hds hrd hO;have tF:Hid (RC 72 q S o po co ds (S.symlink o.ag o.aj)):=hid fun w L' hr h=>by
  refine(Aj q S rk k o (.slice po ds.length co) w L' hk hG hkd hp ku h).mono ?_;rintro e w' ⟨h1,h2,h3⟩;try rw[hkd] at h1 h2
  exact⟨eS,eS,h1,hI (kX _ _ _) h2,h3⟩
 have HR:=hid (by unfold Tre.aD;simp[hkd]:S.aD o ds=S.symlink o.ag o.aj);rw[HR.out];generalize S.symlink o.ag o.aj=AA at *;obtain⟨A,S'⟩:=AA;dsimp only;have ir:=hid hrd;clear HR;have jG:=kbF hkd 1;have hkb2:=kbF hkd 2;have jL:=kbF hkd 3;have kp:=kbF hkd 4;have kT:=kbF hkd 5;have ln:=kbF hkd 6;have lG:=kbF hkd 7;have l3:=kbF hkd 8;have lj:=kbF hkd 9;have kq:=kbF hkd 10;have kH:=kbF hkd 11;have j0:=kbF hkd 12;have lI:=kbT hkd 13;exact zaa
theorem Im (hkd:o.aa=14):RDo q S rk k o w L po co ds:=by
 intro hk hG hp ku hof hds hrd hO;have tF:Hid (RC 74 q S o po co ds ((S.list 14 o.ag,S))):=hid fun w L' hr h=>by
  refine(wF q S rk k o (.slice po ds.length co) w L' hk hG hkd hp h).mono ?_;rintro e w' h1;exact h1
 have HR:=hid (by unfold Tre.aD;simp[hkd]:S.aD o ds=(S.list 14 o.ag,S));rw[HR.out];generalize (S.list 14 o.ag,S)=AA at *;obtain⟨A,S'⟩:=AA;dsimp only;have ir:=hid hrd;clear HR;have jG:=kbF hkd 1;have hkb2:=kbF hkd 2;have jL:=kbF hkd 3;have kp:=kbF hkd 4;have kT:=kbF hkd 5;have ln:=kbF hkd 6;have lG:=kbF hkd 7;have l3:=kbF hkd 8;have lj:=kbF hkd 9;have kq:=kbF hkd 10;have kH:=kbF hkd 11;have j0:=kbF hkd 12;have lI:=kbF hkd 13;have ks:=kbT hkd 14;exact zaa
theorem F6 (hkd:o.aa=15):RDo q S rk k o w L po co ds:=by
 intro hk hG hp ku hof hds hrd hO;have tF:Hid (RC 73 q S o po co ds (S.rename o.ag o.aj)):=hid fun w L' hr h=>by
  refine(Bn q S rk k o (.slice po ds.length co) w L' hk hG hp ku h).mono ?_;rintro e w' ⟨h1,h2,h3⟩;try rw[hkd] at h1 h2
  exact⟨eS,eS,h1,hI (lD _ _ _) h2,h3⟩
 have HR:=hid (by unfold Tre.aD;simp[hkd]:S.aD o ds=S.rename o.ag o.aj);rw[HR.out];generalize S.rename o.ag o.aj=AA at *;obtain⟨A,S'⟩:=AA;dsimp only;have ir:=hid hrd;clear HR;have jG:=kbF hkd 1;have hkb2:=kbF hkd 2;have jL:=kbF hkd 3;have kp:=kbF hkd 4;have kT:=kbF hkd 5;have ln:=kbF hkd 6;have lG:=kbF hkd 7;have l3:=kbF hkd 8;have lj:=kbF hkd 9;have kq:=kbF hkd 10;have kH:=kbF hkd 11;have j0:=kbF hkd 12;have lI:=kbF hkd 13;have ks:=kbF hkd 14;have mC:=kbT hkd 15;exact zaa
theorem Ja (hkd:o.aa=16):RDo q S rk k o w L po co ds:=by
 intro hk hG hp ku hof hds hrd hO;have tF:Hid (RC 74 q S o po co ds ((S.stat o.ag true,S))):=hid fun w L' hr h=>by
  refine(He q S rk k o (.slice po ds.length co) w L' hk hG hkd hp h).mono ?_;rintro e w' h1;exact h1
 have HR:=hid (by unfold Tre.aD;simp[hkd]:S.aD o ds=(S.stat o.ag true,S));rw[HR.out];generalize (S.stat o.ag true,S)=AA at *;obtain⟨A,S'⟩:=AA;dsimp only;have ir:=hid hrd;clear HR;have jG:=kbF hkd 1;have hkb2:=kbF hkd 2;have jL:=kbF hkd 3;have kp:=kbF hkd 4;have kT:=kbF hkd 5;have ln:=kbF hkd 6;have lG:=kbF hkd 7;have l3:=kbF hkd 8;have lj:=kbF hkd 9;have kq:=kbF hkd 10;have kH:=kbF hkd 11;have j0:=kbF hkd 12;have lI:=kbF hkd 13;have ks:=kbF hkd 14;have mC:=kbF hkd 15;have nJ:=kbT hkd 16;exact zaa
theorem IQ (hkd:o.aa=17):RDo q S rk k o w L po co ds:=by
 intro hk hG hp ku hof hds hrd hO;have tF:Hid (RC 74 q S o po co ds ((S.stat o.ag false,S))):=hid fun w L' hr h=>by
  refine(Ec q S rk k o (.slice po ds.length co) w L' hk hG hkd hp h).mono ?_;rintro e w' h1;exact h1
 have HR:=hid (by unfold Tre.aD;simp[hkd]:S.aD o ds=(S.stat o.ag false,S));rw[HR.out];generalize (S.stat o.ag false,S)=AA at *;obtain⟨A,S'⟩:=AA;dsimp only;have ir:=hid hrd;clear HR;have jG:=kbF hkd 1;have hkb2:=kbF hkd 2;have jL:=kbF hkd 3;have kp:=kbF hkd 4;have kT:=kbF hkd 5;have ln:=kbF hkd 6;have lG:=kbF hkd 7;have l3:=kbF hkd 8;have lj:=kbF hkd 9;have kq:=kbF hkd 10;have kH:=kbF hkd 11;have j0:=kbF hkd 12;have lI:=kbF hkd 13;have ks:=kbF hkd 14;have mC:=kbF hkd 15;have nJ:=kbF hkd 16;have lJ:=kbT hkd 17;exact zaa
theorem GA (hkd:o.aa=18):RDo q S rk k o w L po co ds:=by
 intro hk hG hp ku hof hds hrd hO;have tF:Hid (RC 74 q S o po co ds ((S.list 18 o.ag,S))):=hid fun w L' hr h=>by
  refine(zN q S rk k o (.slice po ds.length co) w L' hk hG hkd hp h).mono ?_;rintro e w' h1;exact h1
 have HR:=hid (by unfold Tre.aD;simp[hkd]:S.aD o ds=(S.list 18 o.ag,S));rw[HR.out];generalize (S.list 18 o.ag,S)=AA at *;obtain⟨A,S'⟩:=AA;dsimp only;have ir:=hid hrd;clear HR;have jG:=kbF hkd 1;have hkb2:=kbF hkd 2;have jL:=kbF hkd 3;have kp:=kbF hkd 4;have kT:=kbF hkd 5;have ln:=kbF hkd 6;have lG:=kbF hkd 7;have l3:=kbF hkd 8;have lj:=kbF hkd 9;have kq:=kbF hkd 10;have kH:=kbF hkd 11;have j0:=kbF hkd 12;have lI:=kbF hkd 13;have ks:=kbF hkd 14;have mC:=kbF hkd 15;have nJ:=kbF hkd 16;have lJ:=kbF hkd 17;have mQ:=kbT hkd 18;exact zaa
end
end Go.Proofs.YtmgpgbfgemebbaaGreatDoor
