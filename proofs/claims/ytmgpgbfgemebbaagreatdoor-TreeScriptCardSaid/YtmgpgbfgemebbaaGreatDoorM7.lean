/- TEXTS of mine, merged. -/
import Derived.Test.YtmgpgbfgemebbaaGreatDoorM0
import Derived.Test.YtmgpgbfgemebbaaGreatDoorM6
import Derived.Test.YtmgpgbfgemebbaaGreatDoorM4
import Derived.Test.YtmgpgbfgemebbaaGreatDoorM5
set_option linter.all false
set_option maxRecDepth 100000
set_option maxHeartbeats 16000000
namespace Go.Proofs.YtmgpgbfgemebbaaGreatDoor
open Go.RowKit Go.Own
structure Sn where
 ag:Str
 num:Int
 aa:Int
 ah:Int
 data:List Int
 dv:Value
def qk:Value→Value
 | .slice p n c => .slice p n c
 | _ => .slice none 0 0
def Sn.enc (s:Sn):List Value := [sV s.ag,.int .i64 s.num,.int .i64 s.aa,.int .i64 s.ah,qk s.dv]
def fM:List Sn→List Value
 | [] => []
 | s::r=>s.enc++fM r
theorem iZ (a b:List Sn):fM (a++b)=fM a++fM b:=by
 induction a with
 | nil=>rfl
 | cons s a ih=>simp[fM,ih,List.append_assoc]
theorem ie:(Tryz.prog.info? 57).map (fun i=>(i.zero,i.size,i.bytes))=some (some (.agg #[.string ⟨#[]⟩,.int .i64 0,.int .i64 0,.int .i64 0,.slice none 0 0]),5,64):=by kernel_rfl
def Sns (v:Value)(os:List Sn):HP:=jd (row v 57 5 os.length (fM os)::os.map fun s=>Bytes s.dv s.data)
theorem fZ {w:World}{L:List HP}{v:Value}{os:List Sn} : Has w (Sns v os::L)↔Has w (row v 57 5 os.length (fM os)::(os.map (fun s=>Bytes s.dv s.data)++L)):=by
 unfold Sns;rw[Has.aH];rfl
def seen (S:List (Int×Nod)):Nat→Int→Str→List (Str×Int×Nod)
 | 0,_,_ => []
 | k+1,n,p=>(orM p,n,(fnd S n).getD qb)::((fnd S n).getD qb).ab.flatMap fun e=>seen S k e.2 (p++47::e.1)
theorem nz (a b:Str):sB a++sB b=sB (a++b):=by
 apply ByteArray.ext;simp[sB]
theorem uC {t:List (Str×Int)}{rem:List Str}{k:Str}{c:Int}(hn:(t.map Prod.fst).Nodup)(hm:(k,c)∈t)(hr:k∈rem) :
  (t.filter fun e=>decide (e.1∈rem)).Perm ((k,c)::t.filter fun e=>decide (e.1∈rem.filter fun y => !decide (y=k)))∧(t.filter fun e => !decide (e.1∈rem.filter fun y => !decide (y=k))).Perm ((k,c)::t.filter fun e => !decide (e.1∈rem)):=by
 obtain⟨X,Y,rfl⟩:=List.append_of_mem hm;have hX:∀ e∈X,(e.1∈rem.filter fun y => !decide (y=k))↔e.1∈rem:=by
  intro e he;have:e.1≠k:=by
   rintro rfl;simp only[List.map_append,List.map_cons,List.nodup_append] at hn;exact hn.2.2 e.1 (List.mem_map_of_mem he) e.1 (by simp) rfl
  simp[this]
 have hY:∀ e∈Y,(e.1∈rem.filter fun y => !decide (y=k))↔e.1∈rem:=by
  intro e he;have:e.1≠k:=by
   rintro rfl;simp only[List.map_append,List.map_cons,List.nodup_append,List.nodup_cons] at hn;exact hn.2.1.1 (List.mem_map_of_mem he)
  simp[this]
 have e1:X.filter (fun e=>decide (e.1∈rem.filter fun y => !decide (y=k)))=X.filter fun e=>decide (e.1∈rem):=List.filter_congr fun e he=>by rw[decide_eq_decide];exact hX e he
 have e2:Y.filter (fun e=>decide (e.1∈rem.filter fun y => !decide (y=k)))=Y.filter fun e=>decide (e.1∈rem):=List.filter_congr fun e he=>by rw[decide_eq_decide];exact hY e he
 have e3:X.filter (fun e => !decide (e.1∈rem.filter fun y => !decide (y=k)))=X.filter fun e => !decide (e.1∈rem):=List.filter_congr fun e he=>by congr 1;rw[decide_eq_decide];exact hX e he
 have e4:Y.filter (fun e => !decide (e.1∈rem.filter fun y => !decide (y=k)))=Y.filter fun e => !decide (e.1∈rem):=List.filter_congr fun e he=>by congr 1;rw[decide_eq_decide];exact hY e he
 have hk:¬ (k∈rem.filter fun y => !decide (y=k)):=by simp
 refine⟨?_,?_⟩
 ·rw[List.filter_append,List.filter_append,List.filter_cons,List.filter_cons,e1,e2];dsimp only;rw[if_pos (by simpa using hr),if_neg (by rw[decide_eq_true_iff];exact hk)];exact List.perm_middle
 ·rw[List.filter_append,List.filter_append,List.filter_cons,List.filter_cons,e3,e4];dsimp only;rw[if_pos (by rw[decide_eq_false hk];rfl),if_neg (by rw[decide_eq_true hr];decide)];exact List.perm_middle
theorem rC {α β:Type} (f:α→List β):∀ (l:List α) (e:α),e∈l→(f e).length≤(l.flatMap f).length
 | a::l,e,h=>by
  rw[List.flatMap_cons,List.length_append];rcases List.mem_cons.1 h with rfl|h
  ·omega
  ·have:=rC f l e h;omega
theorem o3 {w:World}{L:List HP}{v:Value}{os:List Sn}(s:Sn)(h:Has w (row v 57 5 (os.length+1) (fM os++s.enc)::Bytes s.dv s.data::(os.map (fun s=>Bytes s.dv s.data)++L))):Has w (Sns v (os ++ [s])::L):=by
 refine fZ.2 ?_;rw[iZ,List.length_append,List.map_append];have e:fM [s]=s.enc:=by simp[fM]
 rw[e];refine h.perm (.cons _ ?_);rw[List.append_assoc];exact List.perm_middle.symm
theorem pS {a r b:HP}{X M L:List HP} : (a::r::b::(X++(M++L))).Perm (r::b::(M++(a::(X++L)))):=by
 refine(List.Perm.swap _ _ _).trans (.cons _ ((List.Perm.swap _ _ _).trans (.cons _ ?_)));show ((a::X)++(M++L)).Perm (M++((a::X)++L));rw[←List.append_assoc,←List.append_assoc];exact List.Perm.append_right L List.perm_append_comm
def Sn.key (s:Sn):Str×Int×Int×Int×List Int:=(s.ag,s.num,s.aa,s.ah,s.data)
def jQ (e:Str×Int×Nod):Str×Int×Int×Int×List Int:=(e.1,e.2.1,e.2.2.aa,e.2.2.ah,e.2.2.data)
theorem Lm (q m f gt gs go:Nat)(P:List Pn)(last:Int)(T:List Tb.Slot)(rk:Int→Nat)(hxd:∀ y∈P,y.2.2.data.length≤100000)(hnd:(P.map Prod.fst).Nodup)(hlow:∀ y∈P,rk y.1≤21)(hrk:∀ y∈P,∀ e∈y.2.2.ab,rk y.1<rk e.2∧e.1.length≤24∧∃ z∈P,z.1=e.2):∀ (d:Nat) (n:Int) (b:Nat) (x:Nod) (p:Str) (PC:List Pn) (ov:Value) (os:List Sn) (w:World) (L:List HP),22≤rk n+d→rk n≤21→(n,b,x)∈P→p.length≤25*rk n→(∀ y∈P,rk n≤rk y.1→y∈PC)→os.length+(seen (pnN P) d n p).length≤1000000 →
  Has w (Sns ov os::pt go (.cells #[ov] 48)::pt gt (.cells #[.pointer (some ⟨q,0,none⟩)] 27)::pt gs (.cells #[(.func (.func 85) #[] #[.pointer (some ⟨gt,0,none⟩),.pointer (some ⟨go,0,none⟩),.pointer (some ⟨gs,0,none⟩)])] 116)::Trg q m f P last T PC::L) →
  zCl 85 #[.int .i64 n,sV p,.pointer (some ⟨gt,0,none⟩),.pointer (some ⟨go,0,none⟩),.pointer (some ⟨gs,0,none⟩)] w fun e w'=>e=.returned (.tuple #[])∧∃ ov' os',(os'.map Sn.key).Perm ((seen (pnN P) d n p).map jQ)∧Has w' (Sns ov' (os++os')::pt go (.cells #[ov'] 48)::pt gt (.cells #[.pointer (some ⟨q,0,none⟩)] 27)::pt gs (.cells #[(.func (.func 85) #[] #[.pointer (some ⟨gt,0,none⟩),.pointer (some ⟨go,0,none⟩),.pointer (some ⟨gs,0,none⟩)])] 116)::Trg q m f P last T PC::L)∧Keep w w':=by
 intro d;induction d with
 | zero=>intro n b x p PC ov os w L h1 h2;omega
 | succ d ih =>
 intro n b x p PC ov os w L hr1 hr2 hin hp hall hos hO;obtain⟨A,B,GV⟩:=List.append_of_mem (hall _ hin (Nat.le_refl _));have hat:(fnd (pnN P) n).getD qb=x:=by
  rw[gf (by rw[gr];exact hnd) (show (n,x)∈pnN P from List.mem_map.2 ⟨_,hin,rfl⟩)];rfl
 have hsn:seen (pnN P) (d+1) n p=(orM p,n,x)::x.ab.flatMap fun e=>seen (pnN P) d e.2 (p++47::e.1):=by
  rw[seen,hat]
 rw[hsn] at hos ⊢;simp only[List.length_cons] at hos;have hxl:=hxd _ hin;have HIH:=hid ih;have IF:=hid hall;have Ba:=hid GV;clear ih hall hat hsn;have hlk:=Trg.look hO.drop.drop.drop.drop hin;have hq0:=(Trg.cells hO.drop.drop.drop.drop).1;have hgt:=hO.p2.e0;have h1:Has w (Trg q m f P last T (A++(n,b,x)::B)::Sns ov os::pt go (.cells #[ov] 48)::pt gt (.cells #[.pointer (some ⟨q,0,none⟩)] 27)::pt gs (.cells #[(.func (.func 85) #[] #[.pointer (some ⟨gt,0,none⟩),.pointer (some ⟨go,0,none⟩),.pointer (some ⟨gs,0,none⟩)])] 116)::L):=by rw[←GV];exact hO.re 5 [4,0,1,2,3]
 obtain⟨dv,wv,nm,hnm,h2⟩:=fG.1 (Trg.bL h1);have lg:=hid hnm;obtain⟨pd,cd,rfl,-⟩:=(Dat.rd h2.p1).form;have HO:=hid (show Has w (row ov 57 5 os.length (fM os)::pt go (.cells #[ov] 48)::pt b (.cells (gg x (.slice pd x.data.length cd) wv nm) 82)::Dat x.aa (.slice pd x.data.length cd) x.data::Bools wv x.wr::Nms nm x.ab::Trg q m f P last T (A++B)::pt gt (.cells #[.pointer (some ⟨q,0,none⟩)] 27)::pt gs (.cells #[(.func (.func 85) #[] #[.pointer (some ⟨gt,0,none⟩),.pointer (some ⟨go,0,none⟩),.pointer (some ⟨gs,0,none⟩)])] 116)::(os.map (fun s=>Bytes s.dv s.data)++L)) from by
  have h3:=(h2.re 9 [5,6,0,1,2,3,4,7,8])
  have h4:=fZ.1 h3;refine h4.perm (.cons _ ?_);refine List.Perm.trans (l₂:=(os.map fun s=>Bytes s.dv s.data)++([pt go (.cells #[ov] 48),pt b (.cells (gg x (.slice pd x.data.length cd) wv nm) 82),Dat x.aa (.slice pd x.data.length cd) x.data,Bools wv x.wr,Nms nm x.ab,Trg q m f P last T (A++B),pt gt (.cells #[.pointer (some ⟨q,0,none⟩)] 27),pt gs (.cells #[(.func (.func 85) #[] #[.pointer (some ⟨gt,0,none⟩),.pointer (some ⟨go,0,none⟩),.pointer (some ⟨gs,0,none⟩)])] 116)]++L)) (.refl _) ?_;rw[←List.append_assoc];refine(List.Perm.append_right L List.perm_append_comm).trans ?_;rw[List.append_assoc];exact .refl _)
 clear h1 h2 hO hnm;go_enter Tryz.func85,Tryz.ntmps85
 go_upto_region 1 with fail
 have eZ:=hid HO.out.drew;have fu:=hid (Keep.refl w).drew;obtain⟨po,co,hov,-⟩:=(Has.rd HO.out).form;refine fT (fun w'=>w'.cell? ⟨go,0,none⟩=some ov∧w'.cell? ⟨b,0,none⟩=some (.int .i64 x.aa)∧w'.cell? ⟨b,5,none⟩=some (.int .i64 x.ah)∧w'.cell? ⟨b,1,none⟩=some (.slice pd x.data.length cd)) (by kernel_rfl) (by kernel_rfl) (by kernel_rfl) (by decide) ⟨eZ.out.p1.cells 0,eZ.out.p2.cells 0,eZ.out.p2.cells 5,eZ.out.p2.cells 1⟩ ?_;clear HO hlk hq0 hgt;generalize w.drew=w2 at *;subst hov;repeat (first|refine wr4 ?_|refine wk ?_)
 refine wa fun K hK=>?_;go_simp
 have eW:=hid (eZ.out.alloc (.cells #[sV p,sV [47]] 9));have fH:=hid (fu.out.alloc (.cells #[sV p,sV [47]] 9));refine hK.out _ _ ⟨eW.out.p2.cells 0,eW.out.p3.cells 0,eW.out.p3.cells 5,eW.out.p3.cells 1⟩ ?_;clear hK K eZ fu;try simp only[Act.put,zpu]
 generalize w2.heap.size=g6 at *;generalize w2.alloc (.cells #[sV p,sV [47]] 9)=w3 at *;refine wa fun K hK=>?_;go_simp
 refine(IA g6 p w3 (eW.out.cells 0) (eW.out.cells 1)).mono ?_;rintro e w' ⟨rfl,rfl⟩;try dsimp only
 refine hK.out _ _ ⟨eW.out.p2.cells 0,eW.out.p3.cells 0,eW.out.p3.cells 5,eW.out.p3.cells 1⟩ ?_;clear hK K;try simp only[Act.put,zpu]
 repeat (first|refine wr4 ?_|refine wk ?_)
 refine wa fun K hK=>?_;go_simp
 refine(mX _ x.data _ _ eW.out (Dat.rd (eW.out.re 5 [4])) (by have:=hxl;dsimp only at this;omega)).mono ?_;rintro e w4 ⟨v4,rfl,hO4,hK4⟩;have fg:=hid hO4;have fO:=hid ((fH.out).trans hK4);clear hO4 hK4;try dsimp only
 refine hK.out _ _ (⟨(fg.out.re 4 [3]).cells 0,(fg.out.re 5 [4]).cells 0,(fg.out.re 5 [4]).cells 5,(fg.out.re 5 [4]).cells 1⟩) ?_;clear hK K;try simp only[Act.put,zpu]
 obtain⟨p4,c4,hv4,-⟩:=(Bytes.rd fg.out).form;subst hv4;repeat (first|refine wr4 ?_|refine wk ?_)
 refine wa fun K hK=>?_;go_simp
 have fi:=hid (fg.out.alloc (.cells #[sV (orM p),.int .i64 n,.int .i64 x.aa,.int .i64 x.ah,.slice p4 x.data.length c4] 57));have ge:=hid (fO.out.alloc (.cells #[sV (orM p),.int .i64 n,.int .i64 x.aa,.int .i64 x.ah,.slice p4 x.data.length c4] 57));refine hK.out _ _ ⟨(fi.out.re 5 [4]).cells 0,(fi.out.re 6 [5]).cells 0,(fi.out.re 6 [5]).cells 5,(fi.out.re 6 [5]).cells 1⟩ ?_;clear hK K fg fO eW fH;try simp only[Act.put,zpu]
 generalize w4.heap.size=g7 at *;generalize w4.alloc (.cells #[sV (orM p),.int .i64 n,.int .i64 x.aa,.int .i64 x.ah,.slice p4 x.data.length c4] 57)=w5 at *;refine wa fun K hK=>?_;have hcs:=fi.out.cells;refine iM _ _ 48 rfl Tryz.underlying48 ie rfl [sV (orM p),.int .i64 n,.int .i64 x.aa,.int .i64 x.ah,.slice p4 x.data.length c4] rfl (fi.out.re 4 [3,0,1,2]) rfl 1 g7 rfl (fun j=>by rw[hcs j];simp) (by intro u hu;simp at hu;rcases hu with rfl|rfl|rfl|rfl|rfl <;> rfl) (eU (by omega)) (by omega) ?_;intro v6 w6 h6 k6;refine hK.out _ _ ⟨(h6.re 5 [4]).cells 0,(h6.re 6 [5]).cells 0,(h6.re 6 [5]).cells 5,(h6.re 6 [5]).cells 1⟩ ?_;clear hK K hcs;try simp only[Act.put,zpu]
 refine eR ?_;obtain⟨p6,c6,hv6,-⟩:=(Has.rd h6).form;subst hv6;have hcg:=(h6.re 5 [4]).e0;have Pw:=(h6.re 5 [4]).thaw 0;have fP:=hid (show Has (w6.setCell ⟨go,0,none⟩ (.slice p6 (os.length+1) c6)) (pt go (.cells #[.slice p6 (os.length+1) c6] 48)::row (.slice p6 (os.length+1) c6) 57 5 (os.length+1) (fM os ++ [sV (orM p),.int .i64 n,.int .i64 x.aa,.int .i64 x.ah,.slice p4 x.data.length c4])::Bytes (.slice p4 x.data.length c4) x.data::pt b (.cells (gg x (.slice pd x.data.length cd) wv nm) 82)::Dat x.aa (.slice pd x.data.length cd) x.data::Bools wv x.wr::Nms nm x.ab::Trg q m f P last T (A++B)::pt gt (.cells #[.pointer (some ⟨q,0,none⟩)] 27)::pt gs (.cells #[(.func (.func 85) #[] #[.pointer (some ⟨gt,0,none⟩),.pointer (some ⟨go,0,none⟩),.pointer (some ⟨gs,0,none⟩)])] 116)::(os.map (fun s=>Bytes s.dv s.data)++L)) from
  (show Has w6 (pt go (.cells #[.slice po os.length co] 48)::_) from h6.re 12 [4,0,2,5,6,7,8,9,10,11]).set 0 (.slice p6 (os.length+1) c6))
 have gZ:=hid ((ge.out.trans k6).set ⟨go,0,none⟩ (.slice p6 (os.length+1) c6));refine gI rfl (by rfl) ?_;go_simp
 clear h6 k6 hcg Pw fi ge;generalize w6.setCell ⟨go,0,none⟩ (.slice p6 (os.length+1) c6)=w7 at *;have hc3:=(fP.out.re 4 [3]).e3;cases nm with
 | none =>
  have hrn:=qP;have hnx:=sZ w7.heap.size (w7.alloc (.mapIter none 0 #[] 0)) 0 (by show (Array.push _ _)[_]? = _;simp);go_wp2_with fail
  go_loopw [] (fun w'=>w'=w7.alloc (.mapIter none 0 #[] 0)) (fun _=>0)
  case atStart=>rfl
  case round =>
   subst hrel;have fI:=hid (o3 ⟨orM p,n,x.aa,x.ah,x.data,.slice p4 x.data.length c4⟩ (fP.out.perm (pS (X := [_,_,_,_,_,_,_]))));go_wp2_with fail
   go_end0
   have hnn:x.ab = []:=(Has.aC.1 (show Has w7 (l0 (x.ab = [])::_) from fI.out.re 6 [5])).1;refine⟨rfl,.slice p6 (os.length+1) c6,[⟨orM p,n,x.aa,x.ah,x.data,.slice p4 x.data.length c4⟩],?_,?_,gZ.out.alloc _⟩
   ·rw[hnn];exact .refl _
   ·have h9:=(fI.out.re 9 [2,3,4,5,6,0,1,7,8]).alloc' (.mapIter none 0 #[] 0);have h10:=Trg.push n (fG.2 ⟨_,_,_,lg.out,h9⟩:Has _ (Ndc b x::_));have h11:=Trg.perm h10 (PC':=PC) (by rw[Ba.out];exact List.perm_middle.symm);exact h11.re 5 [1,2,3,4,0]
 | some mm =>
  have fI:=hid (o3 ⟨orM p,n,x.aa,x.ah,x.data,.slice p4 x.data.length c4⟩ (fP.out.perm (pS (X := [_,_,_,_,_,_,_]))));have fJ:=hid (show Has w7 (Mk kStr vInt mm x.ab::_) from fI.out.re 9 [5,0,1,2,3,4,6,7,8]);have EB:=hid (Mk.nodup fJ.out);clear fP fI;go_wp2_with (at_range;refine gY fJ.out tNm jg rfl _ rfl rfl ?_;intro w8 o0 hK8 hs8)
  try go_frame
  have fI:=hid o0;have iI:=hid (gZ.out.trans hK8);clear o0 hK8 hs8 fJ gZ hc3;generalize w7.heap.size=r at *;go_loopw [] (fun w'=>∃ (rem:List Str) (cnt:Nat) (ov1:Value) (os1:List Sn),(∀ s∈rem,s∈x.ab.map Prod.fst)∧os1.length+((x.ab.filter fun e=>decide (e.1∈rem)).flatMap fun e=>seen (pnN P) d e.2 (p++47::e.1)).length≤(x.ab.flatMap fun e=>seen (pnN P) d e.2 (p++47::e.1)).length+1∧Hid ((os1.map Sn.key).Perm (jQ (orM p,n,x)::((x.ab.filter fun e => !decide (e.1∈rem)).flatMap fun e=>seen (pnN P) d e.2 (p++47::e.1)).map jQ))∧Hid (Has w' (Mr kStr vInt mm r x.ab rem cnt::Sns ov1 (os++os1)::pt go (.cells #[ov1] 48)::pt b (.cells (gg x (.slice pd x.data.length cd) wv (some mm)) 82)::Dat x.aa (.slice pd x.data.length cd) x.data::Bools wv x.wr::Trg q m f P last T (A++B)::pt gt (.cells #[.pointer (some ⟨q,0,none⟩)] 27)::pt gs (.cells #[(.func (.func 85) #[] #[.pointer (some ⟨gt,0,none⟩),.pointer (some ⟨go,0,none⟩),.pointer (some ⟨gs,0,none⟩)])] 116)::L))∧Hid (Keep w w')) (fun w'=>w'.rangeLeft mm r)
  case atStart =>
   have hall:∀ e∈x.ab,e.1∈x.ab.map Prod.fst:=fun e he=>List.mem_map_of_mem he;refine⟨x.ab.map Prod.fst,x.ab.length,_,[⟨orM p,n,x.aa,x.ah,x.data,.slice p4 x.data.length c4⟩],fun s hs=>hs,?_,hid ?_,fI,iI⟩
   ·rw[List.filter_eq_self.2 (fun e he=>decide_eq_true (hall e he))];simp only[List.length_singleton];omega
   ·rw[List.filter_eq_nil_iff.2 (fun e he=>by simp[hall e he])];exact .refl _
  case round =>
   clear fI iI;obtain⟨rem,cnt,ov1,os1,hsub,hlen1,o1,HO,HK⟩:=hrel;have hleft:=Mr.left HO.out;have A8:=hid hleft;have Fx:=hid hsub;have HLEN:=hid hlen1;clear hsub hlen1;go_wp2_with (at_next;refine ik HO.out rfl _ rfl rfl ?_ ?_)
   ·intro gz;subst gz;have fi:=hid (show Has wr (Sns ov1 (os++os1)::pt go (.cells #[ov1] 48)::pt gt (.cells #[.pointer (some ⟨q,0,none⟩)] 27)::pt gs (.cells #[(.func (.func 85) #[] #[.pointer (some ⟨gt,0,none⟩),.pointer (some ⟨go,0,none⟩),.pointer (some ⟨gs,0,none⟩)])] 116)::Trg q m f P last T PC::L) from by
     have h9:=(Mr.end HO.out).re 9 [3,4,5,0,6,1,2,7,8];have h10:=Trg.push n (fG.2 ⟨_,_,_,lg.out,h9⟩:Has _ (Ndc b x::_));have h11:=Trg.perm h10 (PC':=PC) (by rw[Ba.out];exact List.perm_middle.symm);exact h11.re 5 [1,2,3,4,0])
    clear HO hleft;go_wp2_with fail
    go_end0
    refine⟨rfl,ov1,os1,?_,fi.out,HK.out⟩;have h1:=o1.out;rw[List.filter_eq_self.2 (fun e _=>by simp)] at h1;exact h1
   ·rintro k c w9 cnt' uT H8 hky mU zE hK9 hsz hen;simp only[pK,pi] at hen ⊢;have tz:=hen;obtain⟨hk1,hk2,⟨c',b',x'⟩,hz,hzc⟩:=hrk _ hin (k,c) uT;dsimp only at hk1 hk2 hzc;subst hzc;obtain⟨MG,MO⟩:=uC EB.out uT H8;have hfl:=rC (fun e:Str×Int=>seen (pnN P) d e.2 (p++47::e.1)) (x.ab.filter fun e=>decide (e.1∈rem)) (k,c') (List.mem_filter.2 ⟨uT,decide_eq_true H8⟩);dsimp only at hfl;have hpl:(p++47::k).length≤25*rk c':=by simp only[List.length_append,List.length_cons];omega
    have sg:∀ y∈P,rk c'≤rk y.1→y∈A++B:=by
     as_aux_lemma=>exact zbC
    have hgs:w9.cell? ⟨gs,0,none⟩=some (.func (.func 85) #[] #[.pointer (some ⟨gt,0,none⟩),.pointer (some ⟨go,0,none⟩),.pointer (some ⟨gs,0,none⟩)]):=(show Has w9 (pt gs _::_) from mU.re 9 [8]).cells 0;have HX:=hid (HIH.out c' b' x' (p++47::k) (A++B) ov1 (os++os1) w9 _ (by omega) (hlow _ hz) hz hpl sg (by have h1:=HLEN.out;rw[List.length_append];omega) (mU.re 9 [1,2,7,8,6,0,3,4,5]));have JI:=hid MG;have FS:=hid MO;have sC:=hid zE;have gQ:=hid (HK.out.trans hK9);clear uT H8 hky mU zE hK9 hsz hleft HO HK MG MO hfl sg hpl;go_wp2_with fail
    rw[show sB p++(⟨#[47]⟩:ByteArray)++sB k=sB (p++47::k) from by rw[show (⟨#[47]⟩:ByteArray)=sB [47] from rfl,nz,nz,List.append_assoc];rfl];refine HX.out.mono ?_;rintro e w10 ⟨rfl,ov2,os2,H7,hO2,hK2⟩;rw[List.append_assoc] at hO2;have gJ:=hid (show Has w10 (Mr kStr vInt mm r x.ab (rem.filter fun y => !decide (y=k)) cnt'::_) from hO2.re 9 [5,0,1,6,7,8,4,2,3]);have ko:=hid (gQ.out.trans hK2);have Gk:=hid H7;have hleft:=Mr.left gJ.out;clear hO2 hK2 HX gQ hen tz hgs H7;try dsimp only
    go_wp2_with fail
    refine⟨⟨_,cnt',ov2,os1++os2,fun s hs=>Fx.out s (List.mem_filter.1 hs).1,?_,hid ?_,gJ,ko⟩,by rw[hleft,A8.out];exact sC.out⟩
    ·have h1:=HLEN.out;have h2:=(JI.out.flatMap_right fun e:Str×Int=>seen (pnN P) d e.2 (p++47::e.1)).length_eq;rw[List.flatMap_cons,List.length_append] at h2;have h3:=Gk.out.length_eq;rw[List.length_map,List.length_map] at h3;rw[List.length_append];dsimp only at h2;omega
    ·have h2:=(FS.out.flatMap_right fun e:Str×Int=>seen (pnN P) d e.2 (p++47::e.1)).map jQ;rw[List.flatMap_cons,List.map_append] at h2;rw[List.map_append];refine(o1.out.append Gk.out).trans ?_;rw[List.cons_append];refine .cons _ ?_;exact List.perm_append_comm.trans h2.symm
def O0 (b:Nat)(T:List Tb.Slot):HP:=pt b (.cells (Tb.cells T) 96)
structure Rn where
 aa:Int
 ab:Int
 am:Int
 aq:Int
 ai:List (Str×Int)
 data:List Int
 there:List Bool
 ev:Value
 dv:Value
 tv:Value
 fz:Bool
def iT:List (Str×Int)→List Value
 | [] => []
 | e::r=>sV e.1 :: .int .i64 e.2::iT r
theorem lK (a b:List (Str×Int)):iT (a++b)=iT a++iT b:=by
 induction a with
 | nil=>rfl
 | cons e r ih=>simp[iT,ih]
theorem u5:∀ (es:List (Str×Int)) (i:Nat) (h:i<es.length),(iT es)[i*2]? = some (sV es[i].1)∧(iT es)[i*2+1]? = some (.int .i64 es[i].2)
 | e::r,0,_=>by simp[iT]
 | e::r,i+1,h=>by
  have:=u5 r i (by simpa using h);rw[show (i+1)*2=i*2+1+1 by omega];simpa[iT] using this
theorem qU:∀ (es:List (Str×Int)) (i:Nat),(iT es).take (i*2)=iT (es.take i)
 | [],i=>by simp[iT]
 | e::r,0=>by simp[iT]
 | e::r,i+1=>by
  rw[show (i+1)*2=i*2+1+1 by omega];simp[iT,qU r i]
theorem qH:∀ (es:List (Str×Int)) (i:Nat),(iT es).drop (i*2)=iT (es.drop i)
 | [],i=>by simp[iT]
 | e::r,0=>by simp[iT]
 | e::r,i+1=>by
  rw[show (i+1)*2=i*2+1+1 by omega];simp[iT,qH r i]
theorem kE (es:List (Str×Int)):∀ u∈iT es,u.oneCell'=true:=by
 induction es with
 | nil=>simp[iT]
 | cons e r ih =>
  intro u hu;simp only[iT,List.mem_cons] at hu;rcases hu with rfl|rfl|hu
  ·rfl
  ·rfl
  ·exact ih u hu
theorem jR:(Tryz.prog.info? 200).map (fun i=>(i.zero,i.size,i.bytes))=some (some (.agg #[.string ⟨#[]⟩,.int .i64 0]),2,24):=by kernel_rfl
theorem ER:(Tryz.prog.info? 90).map (fun i=>(i.zero,i.size,i.bytes))=some (some (.agg #[.int .i64 0,.int .i64 0,.int .i64 0,.int .i64 0,.slice none 0 0,.slice none 0 0,.slice none 0 0]),7,104):=by kernel_rfl
def Ents (v:Value)(es:List (Str×Int)):HP:=row v 200 2 es.length (iT es)
theorem Ents.rd {v:Value}{es:List (Str×Int)}{w:World}{L:List HP}(h:Has w (Ents v es::L)):Rd w v 2 es.length (iT es):=Has.rd h
theorem Ents.nil {w:World}{L:List HP}(h:Has w L):Has w (Ents (.slice none 0 0) []::L):=h.al _ _
def Rdt (z:Bool)(v:Value)(xs:List Int):HP:=if z=true then Frz v xs else Bytes v xs
theorem Frz.rd {v:Value}{xs:List Int}{w:World}{L:List HP}(h:Has w (Frz v xs::L)):Rd w v 1 xs.length (bc xs):=Dat.rd (k:=3) h
theorem Rdt.rd {z:Bool}{v:Value}{xs:List Int}{w:World}{L:List HP}(h:Has w (Rdt z v xs::L)):Rd w v 1 xs.length (bc xs):=by
 cases z
 ·exact Bytes.rd h
 ·exact Frz.rd h
def Rn.enc (x:Rn):List Value := [.int .i64 x.aa,.int .i64 x.ab,.int .i64 x.am,.int .i64 x.aq,x.ev,x.dv,x.tv]
def rnC:List Rn→List Value
 | [] => []
 | x::r=>x.enc++rnC r
theorem BE (a b:List Rn):rnC (a++b)=rnC a++rnC b:=by
 induction a with
 | nil=>rfl
 | cons e r ih=>simp[rnC,ih,List.append_assoc]
theorem AR:∀ (R:List Rn) (i:Nat) (x:Rn) (_:R[i]? = some x) (j:Nat) (_:j<7),(rnC R)[i*7+j]? = x.enc[j]?
 | e::r,0,x,h,j,hj=>by
  simp at h;subst h;rw[rnC,Nat.zero_mul,Nat.zero_add,List.getElem?_append_left (by simp[Rn.enc];omega)]
 | e::r,i+1,x,h,j,hj=>by
  have:=AR r i x (by simpa using h) j hj;rw[rnC,List.getElem?_append_right (by simp[Rn.enc];omega),←this];congr 1;simp[Rn.enc];omega
theorem uN:∀ (R:List Rn) (i:Nat) (x:Rn) (_:R[i]? = some x) (j:Nat) (_:j<7) (u:Value) (y:Rn) (_:y.enc=x.enc.set j u),(rnC R).set (i*7+j) u=rnC (R.set i y)
 | e::r,0,x,h,j,hj,u,y,hy=>by
  simp at h;subst h;rw[rnC,Nat.zero_mul,Nat.zero_add,List.set_append_left _ _ (by simp[Rn.enc];omega),List.set_cons_zero,rnC,hy]
 | e::r,i+1,x,h,j,hj,u,y,hy=>by
  have:=uN r i x (by simpa using h) j hj u y hy;rw[rnC,List.set_append_right _ _ (by simp[Rn.enc];omega),List.set_cons_succ,rnC,←this];congr 2;simp[Rn.enc];omega
def Rnx (x:Rn):HP:=jd [Ents x.ev x.ai,Rdt x.fz x.dv x.data,Bools x.tv x.there]
def Rtb (q g c:Nat)(R:List Rn)(T:List Tb.Slot):HP:=jd (pt q (.cells (#[.slice (some ⟨g,0,none⟩) R.length c]++Tb.cells T) 98)::row (.slice (some ⟨g,0,none⟩) R.length c) 90 7 R.length (rnC R)::R.map Rnx)
section
variable {w:World} {L:List HP} {q g c:Nat} {R:List Rn} {T:List Tb.Slot}
theorem fy:Has w (Rtb q g c R T::L)↔Has w (pt q (.cells (#[.slice (some ⟨g,0,none⟩) R.length c]++Tb.cells T) 98)::row (.slice (some ⟨g,0,none⟩) R.length c) 90 7 R.length (rnC R)::(R.map Rnx++L)):=by
 unfold Rtb;rw[Has.aH];rfl
theorem gU {x:Rn} : Has w (Rnx x::L)↔Has w (Ents x.ev x.ai::Rdt x.fz x.dv x.data::Bools x.tv x.there::L):=by
 unfold Rnx;rw[Has.aH];rfl
theorem kD {d:Nat}{x:Rn}(hx:R[d]? = some x):Has w (R.map Rnx++L)↔Has w (Rnx x::((R.eraseIdx d).map Rnx++L)):=by
 obtain⟨hd,rfl⟩:=List.getElem?_eq_some_iff.1 hx;have hp:=(gB R d hd).map Rnx;exact zcr
theorem Rtb.nv (h:Has w (Rtb q g c R T::L)):w.cell? ⟨q,0,none⟩=some (.slice (some ⟨g,0,none⟩) R.length c):=by
 rw[(fy.1 h).cells,Array.getElem?_append_left (by simp)];rfl
theorem Rtb.at_ (h:Has w (Rtb q g c R T::L)){d:Nat}{x:Rn}(hx:R[d]? = some x) :
  w.cell? ⟨g,d*7,none⟩=some (.int .i64 x.aa)∧w.cell? ⟨g,d*7+1,none⟩=some (.int .i64 x.ab)∧w.cell? ⟨g,d*7+2,none⟩=some (.int .i64 x.am)∧w.cell? ⟨g,d*7+3,none⟩=some (.int .i64 x.aq)∧w.cell? ⟨g,d*7+4,none⟩=some x.ev∧w.cell? ⟨g,d*7+5,none⟩=some x.dv∧w.cell? ⟨g,d*7+6,none⟩=some x.tv:=by
 have hd:d<R.length:=(List.getElem?_eq_some_iff.1 hx).1;obtain⟨-,h2,-⟩:=(fy.1 h).p1.aE;have H:∀ j,j<7→w.cell? ⟨g,d*7+j,none⟩=x.enc[j]? := fun j hj=>by
  rw[h2 _ (by omega),AR R d x hx j hj]
 exact⟨H 0 (by omega),H 1 (by omega),H 2 (by omega),H 3 (by omega),H 4 (by omega),H 5 (by omega),H 6 (by omega)⟩
theorem Rtb.aO (h:Has w (Rtb q g c R T::L)){d:Nat}{x:Rn}(hx:R[d]? = some x):Rd w x.ev 2 x.ai.length (iT x.ai)∧Rd w x.dv 1 x.data.length (bc x.data)∧Rd w x.tv 1 x.there.length (x.there.map Value.bool):=by
 have h1:=gU.1 ((kD (L:=L) hx).1 ((fy.1 h).drop.drop));exact⟨Ents.rd h1,Rdt.rd h1.drop,Bools.rd h1.drop.drop⟩
theorem iC {v:Value}{es:List (Str×Int)}(h:Rd w v 2 es.length (iT es)):∃ p cp,v=.slice p es.length cp∧es.length≤9223372036854775807∧(0<es.length→∃ a o,p=some ⟨a,o,none⟩∧∀ i (hi:i<es.length),w.cell? ⟨a,o+i*2,none⟩=some (sV es[i].1)∧w.cell? ⟨a,o+i*2+1,none⟩=some (.int .i64 es[i].2)):=by
 obtain⟨p,cp,rfl,-,h2,h3⟩:=h.form;refine⟨p,cp,rfl,h2,fun h0=>?_⟩;obtain⟨a,o,rfl,h4⟩:=h3 (by omega);refine⟨a,o,rfl,fun i hi=>?_⟩;have h5:=u5 es i hi;rw[h4 _ (by omega),show o+i*2+1=o+(i*2+1) by omega,h4 _ (by omega)];exact h5
end
theorem C6 {es:List (Str×Int)}{p:Str}{k:Nat}(hk:k<es.length)(h:es[k].1=p)(hn:∀ j (hj:j<es.length),j<k→es[j].1≠p):(fnd es p).getD 0=es[k].2:=by
 have:es.find? (fun e=>decide (e.1=p))=some es[k]:=by
  rw[List.find?_eq_some_iff_getElem];exact⟨by simpa using h,k,hk,rfl,fun j hj=>by simpa using hn j (by omega) hj⟩
 unfold fnd;rw[this];rfl
theorem Fz {es:List (Str×Int)}{p:Str}(hn:∀ j (hj:j<es.length),es[j].1≠p):(fnd es p).getD 0=0:=by
 have:es.find? (fun e=>decide (e.1=p))=none:=by
  rw[List.find?_eq_none];intro x hx;obtain⟨j,hj,rfl⟩:=List.getElem_of_mem hx;simpa using hn j hj
 unfold fnd;rw[this];rfl
theorem D3 (q g c:Nat)(R:List Rn)(T:List Tb.Slot)(d:Nat)(x:Rn)(p:Str)(w:World)(L:List HP)(hx:R[d]? = some x)(hl:x.ai.length≤1000000)(hR:R.length≤1000000)(hO:Has w (Rtb q g c R T::L)) :
  zCl 190 #[.pointer (some ⟨q,0,none⟩),.int .i64 (d:Int),sV p] w fun e w'=>e=.returned (.int .i64 ((fnd x.ai p).getD 0))∧w=w':=by
 have hq:=Rtb.nv hO;obtain⟨-,-,-,-,c4,-,-⟩:=Rtb.at_ hO hx;obtain⟨pv,cp,he,-,hcs⟩:=iC (Rtb.aO hO hx).1;rw[he] at c4;have vz:=hid hcs;have hd:d<R.length:=(List.getElem?_eq_some_iff.1 hx).1;have hd0:(0:Int)≤(d:Int):=by omega
 have hd1:(d:Int)<(R.length:Int):=by omega
 have hR1:(R.length:Int)≤1000000:=by omega
 have hl1:(x.ai.length:Int)≤1000000:=by omega
 clear hcs he hO hx;go_enter Tryz.func190,Tryz.ntmps190
 go_wp2_with fail
 go_loopw [7] (fun i w'=>w'=w∧∃ k:Nat,k≤x.ai.length∧i=.int .i64 k∧Hid (∀ j (hj:j<x.ai.length),j<k→x.ai[j].1≠p)) (fun i _=>x.ai.length-(intOf i).toNat)
 case atStart=>exact⟨rfl,0,by omega,rfl,hid fun j _ h=>absurd h (by omega)⟩
 case round =>
  obtain⟨rfl,k,hk,rfl,HN⟩:=hrel;by_cases hlt:k<x.ai.length
  ·have hki:(k:Int)<(x.ai.length:Int):=by omega
   have hk0:(0:Int)≤(k:Int):=by omega
   obtain⟨a,o,rfl,hce⟩:=vz.out (by omega);obtain⟨e0,e1⟩:=hce k hlt;clear hce;by_cases hp:x.ai[k].1=p
   ·rw[hp] at e0;have HF:=hid (C6 hlt hp (fun j hj h=>HN.out j hj h));generalize x.ai[k].2=n1 at *;clear hp hlt hk;exact zcZ
   ·have hb:(x.ai[k].1==p)=false:=by simpa using hp
    have mZ:=hid (show ∀ j (hj:j<x.ai.length),j<k+1→x.ai[j].1≠p from fun j hj h=>by
     by_cases e:j=k
     ·subst e;exact hp
     ·exact HN.out j hj (by omega))
    generalize x.ai[k].1=y at *;have gW:=hid hlt;clear e1;clear hlt hk hp HN;exact zbc
  ·obtain rfl:k=x.ai.length:=by omega
   have hki:¬ (x.ai.length:Int)<(x.ai.length:Int):=by omega
   have HF:=hid (Fz (es:=x.ai) (p:=p) (fun j hj=>HN.out j hj hj));clear hlt hk;exact zcZ
namespace Tre
variable (S:Tre)
def forget (n:Int):Tre:=match fnd S.ac n with
 | none=>S
 | some x=>if x.ah=0∧n≠1∧Tb.holds S.ak n=false then {S with ac:=gq S.ac n} else S
def dirTake (d:Nod)(name:Str):Nod:={d with ab:=gq d.ab name}
def nodTake (x:Nod):Nod:={x with ah:=x.ah-1,above:=if x.aa=2 then 0 else x.above}
def kid (dir:Int)(name:Str):Int:=(fnd (S.at_ dir).ab name).getD 0
def take (dir:Int)(name:Str):Tre:=((S.au dir (dirTake (S.at_ dir) name)).au (S.kid dir name) (nodTake (S.at_ (S.kid dir name)))).forget (S.kid dir name)
def remove (aa:Int)(p:Str):Ans×Tre :=
 if (S.place p).2≠0 then(eQ (S.place p).2,S)
 else if (S.place p).1.ae=0 then(eQ 5,S)
 else if aa=10∧(S.at_ (S.place p).1.ae).aa≠2 then(eQ 7,S)
 else if aa=10∧0<(S.at_ (S.place p).1.ae).ab.length then(eQ 9,S)
 else if aa=11∧(S.at_ (S.place p).1.ae).aa=2 then(eQ 8,S)
 else(eQ 0,S.take (S.place p).1.dir (S.place p).1.name)
def link (p q:Str):Ans×Tre :=
 if (S.find p false).2≠0 then(eQ (S.find p false).2,S)
 else if (S.at_ (S.find p false).1.ae).aa=2 then(eQ 16,S)
 else if (S.fresh q).2≠0 then(eQ (S.fresh q).2,S)
 else(eQ 0,S.add (S.fresh q).1.dir (S.fresh q).1.name (S.find p false).1.ae)
def symlink (p q:Str):Ans×Tre :=
 if (fN p).2.2≠0 then(eQ (fN p).2.2,S)
 else if (S.fresh q).2≠0 then(eQ (S.fresh q).2,S)
 else(eQ 0,S.make (S.fresh q).1 3 p)
def close (fd:Int):Ans×Tre :=
 if (Tb.cls S.ak fd).1.2≠0 then(eQ 10,S)
 else(eQ 0,({S with ak:=(Tb.cls S.ak fd).2} : Tre).forget (Tb.cls S.ak fd).1.1)
def withinF:Nat→Int→Int→Bool
 | 0,n,d=>n==d
 | k+1,n,d=>if n≠d∧(S.at_ n).above≠0 then withinF k (S.at_ n).above d else n==d
def within (n d:Int):Bool:=S.withinF 21 n d
def deepF:Nat→Int→List Str→Bool
 | 0,_,parts=>longM parts
 | k+1,n,parts=>longM parts||(S.at_ n).ab.any fun e=>deepF k e.2 (parts ++ [e.1])
def deep (n:Int)(parts:List Str):Bool:=S.deepF 22 n parts
def bg (s t:Spt):Tre:=((S.au s.dir (dirTake (S.at_ s.dir) s.name)).au s.ae {S.at_ s.ae with ah:=(S.at_ s.ae).ah-1}).add t.dir t.name s.ae
def rename (p q:Str):Ans×Tre :=
 if (fx p).2.2≠0 then(eQ (fx p).2.2,S)
 else if (fx q).2.2≠0 then(eQ (fx q).2.2,S)
 else if (S.place p).2≠0 then(eQ (S.place p).2,S)
 else if (S.place p).1.ae=0 then(eQ 5,S)
 else if (S.place q).2≠0 then(eQ (S.place q).2,S)
 else
  let s:=(S.place p).1;let t:=(S.place q).1;let x:=S.at_ s.ae
  if x.aa=2∧S.within t.dir s.ae=true then(eQ 2,S)
  else if x.aa=2∧S.deep s.ae (S.way t.dir ++ [t.name])=true then(eQ 11,S)
  else if t.ae=s.ae then(eQ 0,S)
  else if t.ae≠0∧x.aa=2∧(S.at_ t.ae).aa≠2 then(eQ 7,S)
  else if t.ae≠0∧x.aa=2∧0<(S.at_ t.ae).ab.length then(eQ 9,S)
  else if t.ae≠0∧x.aa≠2∧(S.at_ t.ae).aa=2 then(eQ 8,S)
  else(eQ 0,(if t.ae≠0 then S.take t.dir t.name else S).bg s t)
def lasts (fd:Int):Ans:=if (Tb.get S.ak fd).2≠0 then eQ 10 else eQ 0
end Tre
section
variable {κ α:Type} [DecidableEq κ]
theorem qC {t:List (κ×α)}{x:κ}(h:x∉t.map Prod.fst):gq t x=t:=by
 unfold gq;rw[List.filter_eq_self];intro p hp;have:p.1≠x:=fun e=>h (e ▸ List.mem_map_of_mem (f:=Prod.fst) hp);simpa using this
theorem sH {A B:List (κ×α)}{x:κ}{a:α}(h:((A++(x,a)::B).map Prod.fst).Nodup):gq (A++(x,a)::B) x=A++B:=by
 rw[List.map_append,List.map_cons,List.nodup_append] at h;have hA:x∉A.map Prod.fst:=fun hx=>h.2.2 x hx x List.mem_cons_self rfl;have hB:x∉B.map Prod.fst:=(List.nodup_cons.1 h.2.1).1;have h1:=qC hA;have h2:=qC hB;unfold gq at *;rw[List.filter_append,h1,List.filter_cons,if_neg (by simp),h2]
end
theorem sl (q m f:Nat)(P:List Pn)(S:Tre)(n:Int)(x:Nod)(w:World)(L:List HP)(hn:fnd S.ac n=some x)(hJ:pnN P=S.ac∧S.ak.length=16)(hO:Has w (Trb q m f P S.last S.ak::L)) :
  zCl 117 #[.pointer (some ⟨q,0,none⟩),.int .i64 n] w fun e w'=>e=.returned (.tuple #[])∧∃ P',((pnN P'=(S.forget n).ac∧(S.forget n).ak.length=16)∧∀ e∈P',∃ y,(e.1,e.2.1,y)∈P)∧Has w' (Trb q m f P' (S.forget n).last (S.forget n).ak::L)∧Keep w w':=by
 have HR:=hid (by unfold Tre.forget;rw[hn]:S.forget n=if x.ah=0∧n≠1∧Tb.holds S.ak n=false then {S with ac:=gq S.ac n} else S);generalize S.forget n=R at *;obtain⟨hP,hT⟩:=hJ;have h:=hO;have hn':=hn;rw[←hP] at hn';obtain⟨A,b,B,rfl⟩:=jy hn';have hnd:=Trb.nodup h;have hmem:(n,b,x)∈A++(n,b,x)::B:=by simp
 have As:kInt.ok n:=Mk.ok (fQ.1 h).p1 (by rw[iv];exact List.mem_map_of_mem (f:=Prod.fst) hmem);have hq0:=(Trb.cells h).1;have hq2:=(Trb.cells h).2.2;have hln:=Trg.look (n:=n) (b:=b) (x:=x) (Trg.of h) hmem;have h1:=Trg.bL (Trg.of h);obtain⟨dv,wv,nm,hnm,h2⟩:=fG.1 h1;have gG:=h2.e5;have HO:=hid h;have HN:=hid hnd;have fW:=hid (And.intro hP hT);have E4:=hid As;have HS:=hid hO;clear hn hn' h h1 h2 hnd hP hT As hO hmem;by_cases hl:x.ah=0
 ·have hl1:(x.ah==0)=true:=by simp[hl]
  by_cases h1:n=1
  ·subst h1;have h11:((1:Int) != 1)=false:=by simp
   go_enter Tryz.func117,Tryz.ntmps117
   go_wp2_with fail
   go_end0
   rw[HR.out,if_neg (by rintro⟨-,h,-⟩;exact h rfl)];exact⟨rfl,_,⟨fW.out,fun e he=>⟨e.2.2,he⟩⟩,HS.out,Keep.refl w⟩
  ·have h11:(n != 1)=true:=by simp[h1]
   go_enter Tryz.func117,Tryz.ntmps117
   go_wp2_with fail
   refine st (AM f S.ak n w _ fW.out.2 (Trb.ak.1 HO.out)) (Keep.refl w) fun w1 eT ff=>?_;try dsimp only
   clear hln gG hq0 hq2;have eZ:=hid (Trb.ak.2 eT.out);clear eT HO HS;have hq0:=(Trb.cells eZ.out).1;cases hh:Tb.holds S.ak n
   ·have HH:=hid hh;clear hh;have HM:=hid (show Has w1 (Mk kInt vPtr m (pnB (A++(n,b,x)::B))::pt q (.cells (gF m f S.last) 87)::Tab f S.ak::(pnC (A++(n,b,x)::B)++L)) from(fQ.1 eZ.out).perm (.swap _ _ _));go_wp2_with (at_delete;refine mu HM.out tNo lq rfl _ _ rfl rfl n E4.out rfl ?_;intro w3 hO3 hK3;simp only[Act.put])
    go_end0
    rw[HR.out,if_pos ⟨hl,h1,HH.out⟩];refine⟨rfl,A++B,?_,?_,ff.out.trans hK3⟩
    rotate_left
    have e:pnB (A++(n,b,x)::B)=pnB A++(n,some b)::pnB B:=by simp[pnB]
    have e2:gq (pnB (A++(n,b,x)::B)) n=pnB (A++B):=by
     have h4:=HN.out;rw[←iv,e] at h4;rw[e,sH h4];simp[pnB]
    rw[e2] at hO3;refine fQ.2 ?_;have h5:Has w3 (pt q (.cells (gF m f S.last) 87)::Mk kInt vPtr m (pnB (A++B))::Tab f S.ak::(pnC (A++(n,b,x)::B)++L)):=hO3.perm (.swap _ _ _);have e6:pnC (A++(n,b,x)::B)=pnC A++Ndc b x::pnC B:=by simp[pnC]
    have e7:pnC (A++B)=pnC A++pnC B:=by simp[pnC]
    rw[e6] at h5;rw[e7];have h6:Has w3 (Ndc b x::(pt q (.cells (gF m f S.last) 87)::Mk kInt vPtr m (pnB (A++B))::Tab f S.ak::(pnC A++pnC B++L))):=by
     refine h5.perm ?_;rw[List.append_assoc,List.append_assoc,List.cons_append];refine List.Perm.trans (.cons _ (.cons _ (.cons _ List.perm_middle))) ?_;exact(List.perm_middle (l₁ := [_,_,_]))
    exact h6.drop;have e3:gq S.ac n=pnN (A++B):=by
     have h4:=HN.out;rw[←fW.out.1];have e5:pnN (A++(n,b,x)::B)=pnN A++(n,x)::pnN B:=by simp[pnN]
     rw[←gr,e5] at h4;rw[e5,sH h4];simp[pnN]
    refine⟨⟨e3.symm,fW.out.2⟩,fun e he=>⟨e.2.2,?_⟩⟩;rcases List.mem_append.1 he with h|h
    ·exact List.mem_append_left _ h
    ·exact List.mem_append_right _ (List.mem_cons_of_mem _ h)
   ·have HH:=hid hh;clear hh;go_wp2_with fail
    go_end0
    rw[HR.out,if_neg (by rintro⟨-,-,h⟩;rw[HH.out] at h;cases h)];exact⟨rfl,_,⟨fW.out,fun e he=>⟨e.2.2,he⟩⟩,eZ.out,ff.out⟩
 ·have hl1:(x.ah==0)=false:=by simp[hl]
  go_enter Tryz.func117,Tryz.ntmps117
  go_wp2_with fail
  go_end0
  rw[HR.out,if_neg (by rintro⟨h,-⟩;exact hl h)];exact⟨rfl,_,⟨fW.out,fun e he=>⟨e.2.2,he⟩⟩,HS.out,Keep.refl w⟩
theorem Bt (q:Nat)(S:Tre)(n:Int)(x:Nod)(w:World)(L:List HP)(hn:fnd S.ac n=some x)(hO:Has w (Trc q S::L)) :
  zCl 117 #[.pointer (some ⟨q,0,none⟩),.int .i64 n] w fun e w'=>e=.returned (.tuple #[])∧Has w' (Trc q (S.forget n)::L)∧Keep w w':=by
 obtain⟨m,f,P,hJ,h⟩:=eY.1 hO;refine(sl q m f P S n x w L hn hJ h).mono ?_;rintro e w' ⟨rfl,P',h1,h2,h3⟩;exact⟨rfl,eY.2 ⟨m,f,P',h1.1,h2⟩,h3⟩
theorem fnd_putA {κ α:Type} [DecidableEq κ] {t:List (κ×α)} {x y:κ} {a:α} : fnd (eX t x a) y=if y=x then some a else fnd t y:=by
 unfold eX;by_cases hx:x∈t.map Prod.fst
 ·rw[if_pos hx];unfold fnd;induction t with
  | nil=>simp at hx
  | cons p t ih =>
   rw[List.map_cons,List.find?_cons];by_cases hp:p.1=x
   ·rw[if_pos hp];by_cases hy:y=x
    ·subst hy;simp
    ·rw[if_neg hy];have h1:decide (x=y)=false:=by simp;exact fun e=>hy e.symm
     have h2:decide (p.1=y)=false:=by simp;rw[hp];exact fun e=>hy e.symm
     rw[List.find?_cons,h2];simp only[h1];by_cases hx':x∈t.map Prod.fst
     ·have:=ih hx';rw[if_neg hy] at this;exact this
     ·congr 1;rw[show List.map (fun p=>if p.1=x then(x,a) else p) t=t from by
       conv=>rhs;rw[←List.map_id t]
       apply List.map_congr_left;intro r hr;show (if r.1=x then(x,a) else r)=r;rw[if_neg (fun e:r.1=x=>hx' (e ▸ List.mem_map_of_mem (f:=Prod.fst) hr))]]
   ·rw[if_neg hp,List.find?_cons];have hx':x∈t.map Prod.fst:=by
     rw[List.map_cons,List.mem_cons] at hx;exact hx.resolve_left (fun e=>hp e.symm)
    have:=ih hx';by_cases hpy:p.1=y
    ·have hy:y≠x:=fun e=>hp (hpy.trans e);simp[hpy,hy]
    ·simp only[hpy,decide_false];exact this
 ·rw[if_neg hx];unfold fnd;rw[List.find?_append];by_cases hy:y=x
  ·subst hy;rw[if_pos rfl];have:t.find? (fun p=>decide (p.1=y))=none:=by
    rw[List.find?_eq_none];intro p hp;simp only[decide_eq_true_eq];exact fun e=>hx (e ▸ List.mem_map_of_mem (f:=Prod.fst) hp)
   rw[this];simp
  ·rw[if_neg hy];have h1:List.find? (fun p=>decide (p.1=y)) [(x,a)]=none:=by simp;exact fun e=>hy e.symm
   rw[h1];cases List.find? (fun p=>decide (p.1=y)) t <;> rfl
theorem Trg.ep {w:World}{L:List HP}{q m f:Nat}{PB PC P:List Pn}{last:Int}{T:List Tb.Slot}(h:Has w (Trg q m f PB last T PC::L))(hp:PC.Perm P)(hb:pnB P=pnB PB):Has w (Trb q m f P last T::L):=by
 refine fQ.2 ?_;rw[hb];refine(ip.1 h).perm (.cons _ (.cons _ (.cons _ ?_)));exact List.Perm.append_right _ (hp.map _)
theorem AX (q m f:Nat)(P:List Pn)(S:Tre)(dir:Int)(name:Str)(n:Int)(d x:Nod)(w:World)(L:List HP)(hd:fnd S.ac dir=some d)(hc:fnd d.ab name=some n)(hn:fnd S.ac n=some x)(hne:dir≠n)(hk:d.aa=2)(hl:name.length≤1000000)(hx0 : -1000000≤x.ah)(hx1:x.ah<1000000)(hJ:pnN P=S.ac∧S.ak.length=16)(hO:Has w (Trb q m f P S.last S.ak::L)) :
  zCl 121 #[.pointer (some ⟨q,0,none⟩),.int .i64 dir,sV name] w fun e w'=>e=.returned (.tuple #[])∧∃ P',((pnN P'=(S.take dir name).ac∧(S.take dir name).ak.length=16)∧∀ e∈P',∃ y,(e.1,e.2.1,y)∈P)∧Has w' (Trb q m f P' (S.take dir name).last (S.take dir name).ak::L)∧Keep w w':=by
 obtain⟨hP,hT⟩:=hJ;have h:=hO;have hd':=hd;have hn':=hn;rw[←hP] at hd' hn';obtain⟨b,b2,R,hperm⟩:=ny hd' hn' hne;have hnd:=Trb.nodup h;have hq:=(Trb.cells h).1;have hld:=Trg.look (n:=dir) (b:=b) (x:=d) (Trg.of h) (hperm.mem_iff.2 (by simp));have h1:=(Trg.bD (Trg.of h) hperm).re 2 [1,0];have h2:=Trg.bD h1 (.refl _);obtain⟨dv2,wv2,nm2,oC,h3⟩:=fG.1 h2;obtain⟨dv,wv,nm,hnm,h4⟩:=fG.1 (h3.re 6 [5,0,1,2,3,4]);obtain⟨mm,rfl⟩:=hnm hk;have HO:=hid h4.vh;have o1:=hid hperm;have pP:=hid hnd;have fW:=hid (And.intro hP hT);have lg:=hid hnm;have zJ:=hid oC;have rW:=hid (And.intro hd hn);have HC:=hid hc;have hsl:name.length≤maxLen:=Nat.le_trans hl (eU (by omega));have hlc:(Instr.lookup tNm (.map (some mm)) (sV name) false).run Tryz.prog w=.ok (.int .i64 n) w:=by
  have h:=Mk.look0 HO.out jg hsl;rw[HC.out] at h;exact h
 have hc3:=HO.out.p1.e3;have PS:=hid (show ∀ w',Has w' (Trg q m f P S.last S.ak R::L)→w'.cell? ⟨q,0,none⟩=some (.map (some m))∧(Instr.lookup tNo (.map (some m)) (.int .i64 n) false).run Tryz.prog w'=.ok (.pointer (some ⟨b2,0,none⟩)) w' from fun w' h'=>⟨(Trg.cells h').1,Trg.look (x:=x) h' (hperm.mem_iff.2 (by simp))⟩);clear hd' hn' hd hn h h1 h2 h3 h4 hO hperm hnd hP hT hnm oC hc;have hfin:∀ (w':World) (x':Nod),x'.aa=x.aa→x'.data=x.data→x'.wr=x.wr→x'.ab=x.ab→Tre.nodTake x=x'→Has w' (pt b2 (.cells (gg x' dv2 wv2 nm2) 82)::pt b (.cells (gg (Tre.dirTake d name) dv wv (some mm)) 82)::Mk kStr vInt mm (gq d.ab name)::Dat d.aa dv d.data::Bools wv d.wr::Dat x.aa dv2 x.data::Bools wv2 x.wr::Nms nm2 x.ab::Trg q m f P S.last S.ak R::L)→Has w' (Trb q m f (P.map (pf dir (Tre.dirTake d name) n x')) S.last S.ak::L)∧pnN (P.map (pf dir (Tre.dirTake d name) n x'))=((S.au dir (Tre.dirTake d name)).au n x').ac:=by
  intro w' x' e1 e2 e3 e4 hxe h;have g1:Has w' (Ndc b2 x'::pt b (.cells (gg (Tre.dirTake d name) dv wv (some mm)) 82)::Mk kStr vInt mm (gq d.ab name)::Dat d.aa dv d.data::Bools wv d.wr::Trg q m f P S.last S.ak R::L):=fG.2 ⟨dv2,wv2,nm2,by rw[e1];exact zJ.out,by rw[e1,e2,e3,e4];exact h.re 8 [0,5,6,7,1,2,3,4]⟩;have g2:Has w' (Ndc b (Tre.dirTake d name)::Ndc b2 x'::Trg q m f P S.last S.ak R::L):=fG.2 ⟨dv,wv,some mm,fun _=>⟨mm,rfl⟩,g1.re 5 [1,3,4,2,0]⟩;have g3:Has w' (Trg q m f P S.last S.ak ((n,b2,x')::R)::Ndc b (Tre.dirTake d name)::L):=Trg.push n (g2.re 3 [1,2,0]);have g4:Has w' (Trg q m f P S.last S.ak ((dir,b,Tre.dirTake d name)::(n,b2,x')::R)::L):=Trg.push dir (g3.re 2 [1,0]);refine⟨Trg.ep g4 (nB o1.out pP.out hne).symm oY,?_⟩;rw[o5 (by rw[gr];exact(o1.out.map Prod.fst).mem_iff.2 (by simp)) (by rw[gr];exact(o1.out.map Prod.fst).mem_iff.2 (by simp)),fW.out.1];rfl
 have n9:=hid hfin;have jU:=hid (show S.take dir name=((S.au dir (Tre.dirTake d name)).au n (Tre.nodTake x)).forget n∧fnd ((S.au dir (Tre.dirTake d name)).au n (Tre.nodTake x)).ac n=some (Tre.nodTake x) from by
  have a1:S.at_ dir=d:=by unfold Tre.at_;rw[rW.out.1];rfl
  have a2:S.at_ n=x:=by unfold Tre.at_;rw[rW.out.2];rfl
  have a3:S.kid dir name=n:=by unfold Tre.kid;rw[a1,HC.out];rfl
  refine⟨by unfold Tre.take;rw[a3,a1,a2],?_⟩;show fnd (eX _ n _) n=_;rw[fnd_putA,if_pos rfl])
 have wx:IntKind.i64.wrap (x.ah-1)=x.ah-1:=ft _ (by omega);clear hfin;go_enter Tryz.func121,Tryz.ntmps121
 go_upto_region 3 with (at_delete;refine mu HO.out tNm jg rfl _ _ rfl rfl name hsl rfl ?_;intro w2 hO2 hK2;simp only[Act.put])
 have eZ:=hid (show Has w2 (pt b2 (.cells (gg x dv2 wv2 nm2) 82)::pt b (.cells (gg (Tre.dirTake d name) dv wv (some mm)) 82)::Mk kStr vInt mm (gq d.ab name)::Dat d.aa dv d.data::Bools wv d.wr::Dat x.aa dv2 x.data::Bools wv2 x.wr::Nms nm2 x.ab::Trg q m f P S.last S.ak R::L) from hO2.re 5 [4,1,0,2,3]);have fu:=hid hK2;clear hO2 hK2 HO hlc hc3 hq hld;obtain⟨hq0,hln⟩:=PS.out w2 (eZ.out.re 9 [8]);have hy0:=eZ.out.e0;have gG:=eZ.out.e5;have KO:=eZ.out.e6;have gH:=eZ.out.thaw 5;have LS:=eZ.out.thaw 6;have JB:=hid (show Tre.nodTake x={x with ah:=x.ah-1,above:=if x.aa=2 then 0 else x.above} from rfl);by_cases hk2:x.aa=2
 ·have hkt:(x.aa==2)=true:=by simp[hk2]
  go_upto_region 7 with fail
  have eW:=hid (n9.out _ {x with ah:=x.ah-1,above:=0} rfl rfl rfl rfl (by rw[JB.out,if_pos hk2]) ((eZ.out.set 5 (.int .i64 (x.ah-1))).set 6 (.int .i64 0)));have fH:=hid ((fu.out.set ⟨b2,5,none⟩ (.int .i64 (x.ah-1))).set ⟨b2,6,none⟩ (.int .i64 0));clear eZ fu hy0 gG KO gH LS hq0 hln n9;generalize (w2.setCell ⟨b2,5,none⟩ (.int .i64 (x.ah-1))).setCell ⟨b2,6,none⟩ (.int .i64 0)=w3 at *;have Bd:Tre.nodTake x={x with ah:=x.ah-1,above:=0} := by rw[JB.out,if_pos hk2]
  exact zaL
 ·have hkt:(x.aa==2)=false:=by simp[hk2]
  go_upto_region 7 with fail
  have eW:=hid (n9.out _ {x with ah:=x.ah-1} rfl rfl rfl rfl (by rw[JB.out,if_neg hk2]) (eZ.out.set 5 (.int .i64 (x.ah-1))));have fH:=hid (fu.out.set ⟨b2,5,none⟩ (.int .i64 (x.ah-1)));clear eZ fu hy0 gG KO gH LS hq0 hln n9;generalize w2.setCell ⟨b2,5,none⟩ (.int .i64 (x.ah-1))=w3 at *;have Bd:Tre.nodTake x={x with ah:=x.ah-1} := by rw[JB.out,if_neg hk2]
  exact zaL
theorem F9 (q:Nat)(S:Tre)(dir:Int)(name:Str)(n:Int)(d x:Nod)(w:World)(L:List HP)(hd:fnd S.ac dir=some d)(hc:fnd d.ab name=some n)(hn:fnd S.ac n=some x)(hne:dir≠n)(hk:d.aa=2)(hl:name.length≤1000000)(hx0 : -1000000≤x.ah)(hx1:x.ah<1000000)(hO:Has w (Trc q S::L)) :
  zCl 121 #[.pointer (some ⟨q,0,none⟩),.int .i64 dir,sV name] w fun e w'=>e=.returned (.tuple #[])∧Has w' (Trc q (S.take dir name)::L)∧Keep w w':=by
 obtain⟨m,f,P,hJ,h⟩:=eY.1 hO;refine(AX q m f P S dir name n d x w L hd hc hn hne hk hl hx0 hx1 hJ h).mono ?_;rintro e w' ⟨rfl,P',h1,h2,h3⟩;exact⟨rfl,eY.2 ⟨m,f,P',h1.1,h2⟩,h3⟩
theorem nD:∀ xs:List Str,(∀ p∈xs,p.length≤24)→(kw xs).length≤xs.length*25
 | [],_=>by simp[kw,Lib.join_nil]
 | x::r,h=>by
  unfold kw;rw[Lib.join_cons];have h1:∀ r:List Str,(∀ p∈r,p.length≤24)→(Lib.joinTail [47] r).length≤r.length*25:=by
   intro r;induction r with
   | nil=>intro _;simp[Lib.joinTail]
   | cons y r ih =>
    intro h;have h2:=ih fun p hp=>h p (List.mem_cons_of_mem _ hp);have h3:=h y List.mem_cons_self;simp only[Lib.joinTail,List.map_cons,List.flatten_cons,List.length_append,List.length_cons,List.length_nil] at *;omega
  have h4:=h1 r fun p hp=>h p (List.mem_cons_of_mem _ hp);have h5:=h x List.mem_cons_self;simp only[List.length_append,List.length_cons];omega
theorem lc (p:Str):(kw (fb p).1.dropLast).length≤1000:=by
 have h1:=nD (fb p).1.dropLast fun q hq=>kr p q ((List.dropLast_sublist _).subset hq);have h2:=iU p;have h3:(fb p).1.dropLast.length≤20:=by rw[List.length_dropLast];omega
 omega
theorem uG (p:Str):(fx p).1.length≤1001:=by
 unfold fx;split
 ·simp
 ·split
  ·simp
  ·split
   ·simp
   ·have:=lc p;simp only[ii,List.length_cons];omega
theorem qY (p:Str):(fx p).2.1.length≤24:=by
 unfold fx;split
 ·simp
 ·split
  ·simp
  ·rename_i x hx;split
   ·simp
   ·exact kr p x (List.mem_of_getLast? hx)
theorem ux {S:Tre}(hW:Wk S)(fo:Bool)(s:Spt)(hops:Nat)(ps:List Str)(hs:∃ x,fnd S.ac s.ae=some x)(h0:(S.walk s hops ps fo).2=0):∃ x,fnd S.ac (S.walk s hops ps fo).1.ae=some x:=by
 fun_induction Tre.walk S s hops ps fo
 case case1=>exact hs
 case case2=>simp at h0
 case case3 =>
  rename_i ih;refine ih ?_ h0;obtain⟨x,hx⟩:=hs;show ∃ y,fnd S.ac (S.up _)=some y;unfold Tre.up Tre.at_;rw[hx];by_cases h1:x.above=0
  ·exact⟨x,by simp[h1,hx]⟩
  ·obtain⟨y,hy⟩:=hW.above _ _ hx h1;exact⟨y,by simp[h1,hy]⟩
 case case4=>simp at h0
 case case5=>simp at h0
 case case6 =>
  rename_i ih;refine ih ?_ h0;dsimp only;split
  ·exact hW.root
  ·exact hs
 case case7 =>
  rename_i hf hn ih;refine ih ?_ h0;obtain⟨x,hx⟩:=hs;unfold Tre.at_ at hf;rw[hx] at hf;exact hW.child _ _ hx _ _ hf
theorem gh {S:Tre}(hW:Wk S)(p:Str)(fo:Bool)(h0:(S.find p fo).2=0):∃ x,fnd S.ac (S.find p fo).1.ae=some x:=by
 unfold Tre.find at *;split at h0
 ·rename_i h;exact absurd h0 h
 ·rename_i h;rw[if_neg h];exact ux hW fo _ _ _ hW.root h0
theorem im (ws:List Bool)(a b:Nat):(iJ ws a b).length=ws.length:=by simp[iJ]
theorem j6 (ws:List Bool)(a b i:Nat)(h:i<ws.length):(iJ ws a b)[i]? = some (ws[i]||(decide (a≤i)&&decide (i<b))):=by
 unfold iJ;rw[List.getElem?_map,List.getElem?_zipIdx,List.getElem?_eq_getElem h];simp
theorem pE (ws:List Bool)(a:Nat):iJ ws a a=ws:=by
 apply List.ext_getElem?;intro i;by_cases h:i<ws.length
 ·rw[j6 ws a a i h,List.getElem?_eq_getElem h];have:(decide (a≤i)&&decide (i<a))=false:=by
   by_cases h1:a≤i
   ·simp
   ·simp[h1]
  rw[this,Bool.or_false]
 ·rw[List.getElem?_eq_none (by rw[im];omega),List.getElem?_eq_none (by omega)]
theorem mi (ws:List Bool)(a k:Nat)(h1:a≤k)(h2:k<ws.length):iJ ws a (k+1)=(iJ ws a k).set k true:=by
 apply List.ext_getElem?;intro i;by_cases h:i<ws.length
 ·by_cases hik:i=k
  ·subst hik;rw[j6 ws a (i+1) i h,List.getElem?_set_self (by rw[im];exact h)];simp[h1]
  ·rw[List.getElem?_set_ne (Ne.symm hik),j6 ws a (k+1) i h,j6 ws a k i h];congr 2;by_cases h3:i<k
   ·simp[h3,Nat.lt_succ_of_lt h3]
   ·have:¬ i<k+1:=by omega
    simp[h3,this]
 ·rw[List.getElem?_eq_none (by rw[im];omega),List.getElem?_eq_none (by rw[List.length_set,im];omega)]
theorem m9 (q:Nat)(S:Tre)(rk:Int→Nat)(p:Str)(mx:Int)(w:World)(L:List HP)(hW:Wk S)(hY:Wy S rk)(hM:MxL mx L)(hp:p.length≤100000)(hO:Has w (Trc q S::L)) :
  zCl 112 #[.pointer (some ⟨q,0,none⟩),sV p] w fun e w'=>e=.returned (.tuple #[spV (S.place p).1,.int .i64 (S.place p).2])∧Has w' (Trc q S::L)∧Keep w w':=by
 have Gp:=hid (fun(w:World)(L':List HP)(hM:MxL mx L')(hO:Has w L')=>ze p mx w L' hM hp (by have:=iU p;omega) (by have:=lc p;omega) hO);have hla:=uG p;have hln:=qY p;generalize hR:S.place p=R;unfold Tre.place at hR;generalize fx p=M at *;obtain⟨ahead,name,e1⟩:=M;dsimp only at *;have tM:=hid (fun(w:World)(L':List HP)(hM:MxL mx L')(hO:Has w (Trc q S::L'))=>o4 q S ahead true mx w L' hW hM (by omega) hO);have lr:=hid (gh hW ahead true);generalize S.find ahead true=F at *;obtain⟨s2,e2⟩:=F;dsimp only at *;have HR:=hid hR;have HM:=hid hM;have HO:=hid hO;have HY:=hid hY;have np:=hid hln;clear hM hO hp hla hW hR hY;go_enter Tryz.func112,Tryz.ntmps112
 go_wp2_with fail
 refine st (Gp.out _ _ ((HM.out.cons _).cons (pt w.heap.size (.cells (spC fp) 102))) (HO.out.alloc _)) ((Keep.refl w).alloc _) fun w1 eT ff=>?_;try dsimp only
 generalize w.heap.size=g4 at *;have iQ:=eT.out.e0;have iP:=eT.out.e1;have iS:=eT.out.e2;have ja:=eT.out.thaw 0;have jf:=eT.out.thaw 1;have jh:=eT.out.thaw 2;by_cases he:e1=0
 ·subst he;have HR1:=hid (show (if e2≠0 then(fp,e2) else if (S.at_ s2.ae).aa≠2 then(fp,7) else if Tre.longM (S.way s2.ae ++ [name])=true then(fp,11) else(⟨(fnd (S.at_ s2.ae).ab name).getD 0,s2.ae,name⟩,0))=R from(if_neg (fun h=>h rfl)).symm.trans HR.out);clear HR;go_upto_region 4 with fail
  go_cut [8,9] (fun e9 p9 wx=>∃ (w3:World) (g9:Nat),w3=wx∧e9=.int .i64 e2∧p9=.pointer (some ⟨g9,0,none⟩)∧Hid (Has w3 (pt g9 (.cells (spC s2) 102)::pt g4 (.cells (spC fp) 102)::Trc q S::L))∧Hid (Keep w w3))
  case first =>
   go_wp2_with fail
   refine st (tM.out w1 _ (HM.out.cons (pt g4 (.cells (spC fp) 102))) (eT.out.re 2 [1,0])) (ff.out) fun w2 eZ fu=>?_
   as_aux_lemma=>exact zb3
  case rest =>
   obtain⟨w3,g9,rfl,rfl,rfl,eW,fH⟩:=hcut;clear iQ iP iS ja jf jh;have iQ:=eW.out.p1.e0;have iP:=eW.out.p1.e1;have iS:=eW.out.p1.e2;have ja:=eW.out.p1.thaw 0;have jf:=eW.out.p1.thaw 1;have jh:=eW.out.p1.thaw 2;by_cases he2:e2=0
   ·subst he2;have HR2:=hid (show (if (S.at_ s2.ae).aa≠2 then(fp,7) else if Tre.longM (S.way s2.ae ++ [name])=true then(fp,11) else(⟨(fnd (S.at_ s2.ae).ab name).getD 0,s2.ae,name⟩,0))=R from(if_neg (fun h=>h rfl)).symm.trans HR1.out);clear HR1;obtain⟨x,hx⟩:=lr.out rfl;have hat:S.at_ s2.ae=x:=by unfold Tre.at_;rw[hx];rfl
    rw[hat] at HR2;obtain⟨m,f,P,⟨hP,hT⟩,h⟩:=eY.1 (eW.out.re 3 [2,0,1]);have fW:=hid (And.intro hP hT);have HG:=hid (show Has w3 (Trb q m f P S.last S.ak::pt g9 (.cells (spC s2) 102)::pt g4 (.cells (spC fp) 102)::L) from h);have hx':=hx;rw[←hP] at hx';obtain⟨b,hb,hl⟩:=Trb.look HG.out.drew hx';obtain⟨dv,wv,nm,hnm,hc,-,hlk⟩:=Trb.cD HG.out.drew hb;have hcb0:w3.drew.cell? ⟨b,0,none⟩=some (.int .i64 x.aa):=hc 0;have hcb3:w3.drew.cell? ⟨b,3,none⟩=some (.map nm):=hc 3;have hcq:=(Trb.cells HG.out.drew).1;have hc90:w3.drew.cell? ⟨g9,0,none⟩=some (.int .i64 s2.ae):=HG.out.drew.p1.cells 0;have J3:=hid hx;clear hx' hP hT h hc hx;go_upto_region 7 with fail
    refine eP (fun w'=>w'.cell? ⟨q,0,none⟩=some (.map (some m))∧w'.cell? ⟨g9,0,none⟩=some (.int .i64 s2.ae)∧(Instr.lookup tNo (.map (some m)) (.int .i64 s2.ae) false).run Tryz.prog w'=.ok (.pointer (some ⟨b,0,none⟩)) w') (by kernel_rfl) (by kernel_rfl) ⟨hcq,hc90,hl⟩ ?_;repeat (first|refine wr3 ?_|refine wk ?_)
    refine eR ?_;have gC:=hid eW.out.drew;have OA:=hid HG.out.drew;have iG:=hid fH.out.drew;clear iQ iP iS ja jf jh eW HG fH;generalize w3.drew=w4 at *;have iQ:=gC.out.p1.e0;have iP:=gC.out.p1.e1;have iS:=gC.out.p1.e2;have ja:=gC.out.p1.thaw 0;have jf:=gC.out.p1.thaw 1;have jh:=gC.out.p1.thaw 2;by_cases hk:x.aa=2
    ·have HR3:=hid (show (if Tre.longM (S.way s2.ae ++ [name])=true then(fp,11) else(⟨(fnd x.ab name).getD 0,s2.ae,name⟩,0))=R from(if_neg (fun h=>h hk)).symm.trans HR2.out);clear HR2;obtain⟨mm,rfl⟩:=hnm hk;have hwl:=ot HY.out 20 _ _ J3.out (HY.out.low _);have hws:=lM HY.out 20 _ _ J3.out (HY.out.low _);have OK:=hid (fun(w:World)(L':List HP)(hO:Has w (Trb q m f P S.last S.ak::L'))=>Fi q m f P S rk s2.ae x w L' HY.out J3.out fW.out hO);generalize S.way s2.ae=wy at *;have PL:=hid (show (kw (wy ++ [name])).length≤1000000 from by
      have h1:=nD (wy ++ [name]) (fun p' hp'=>(List.mem_append.1 hp').elim (hws p') (fun h=>by rw[List.mem_singleton.1 h];exact np.out));simp only[List.length_append,List.length_cons,List.length_nil] at h1;omega)
     clear hws hlk hnm;go_upto_region 10 with fail
     go_cut [45] (fun c wx=>∃ (w6:World),w6=wx∧c=.bool (Tre.longM (wy ++ [name]))∧Hid (Has w6 (Trb q m f P S.last S.ak::pt g9 (.cells (spC s2) 102)::pt g4 (.cells (spC fp) 102)::L))∧Hid (Keep w w6))
     case first =>
      go_wp2_with fail
      refine(OK.out w4 _ OA.out).mono ?_;rintro e w5 ⟨v5,rfl,kk,hK5⟩;have fi:=hid kk;have ge:=hid ((iG.out).trans hK5);clear kk hK5;try dsimp only
      obtain⟨p5,c5,rfl,-⟩:=(Strs.rd fi.out).form;have fq:=hid (show Has (w5.alloc (.cells #[sV name] gx)) (Strs (.slice p5 wy.length c5) wy::pt w5.heap.size (.cells #[sV name] gx)::Trb q m f P S.last S.ak::pt g9 (.cells (spC s2) 102)::pt g4 (.cells (spC fp) 102)::L) from(fi.out.alloc (.cells #[sV name] gx)).re 2 [1,0]);have hcx:=fq.out.p1.cells 0;go_wp2_with (at_builtin;refine fS rfl _ _ _ rfl Tryz.underlying36 iD rfl (sV name) fq.out rfl 1 w5.heap.size rfl hcx rfl (eU (by omega)) (by omega) ?_;intro v7 w7 h7 k7)
      have fP:=hid (show Has w7 (Strs v7 (wy ++ [name])::Trb q m f P S.last S.ak::pt g9 (.cells (spC s2) 102)::pt g4 (.cells (spC fp) 102)::L) from by
       have h6:Has w7 (Strs v7 (wy ++ [name])::pt w5.heap.size (.cells #[sV name] gx)::Trb q m f P S.last S.ak::pt g9 (.cells (spC s2) 102)::pt g4 (.cells (spC fp) 102)::L):=by
        unfold Strs;rw[List.map_append,List.length_append];exact h7
       exact h6.re 5 [0,2,3,4])
      have gZ:=hid ((ge.out.alloc (.cells #[sV name] gx)).trans k7);clear h7 k7 fq hcx;obtain⟨p7,c7,rfl,-⟩:=(Strs.rd fP.out).form;go_wp2_with fail
      refine st (Dl _ (wy ++ [name]) w7 _ (Strs.rd fP.out) (by simp;omega) PL.out fP.out) (gZ.out) fun w8 fI iI=>?_;try dsimp only
      go_wp2_with fail
      go_meet
      exact⟨_,rfl,rfl,hid fI.out.drop,iI⟩
     case rest =>
      obtain⟨w6,rfl,rfl,fq,gu⟩:=hcut;clear iQ iP iS ja jf jh hcb0 hcb3 hcq hc90;by_cases hlong:Tre.longM (wy ++ [name])=true
      ·rw[hlong];have HRR:=hid (by rw[←HR3.out,if_pos hlong]:R=(fp,11));have iQ:=fq.out.p2.e0;have iP:=fq.out.p2.e1;have iS:=fq.out.p2.e2;have ja:=fq.out.p2.thaw 0;have jf:=fq.out.p2.thaw 1;have jh:=fq.out.p2.thaw 2;go_wp2_with fail
       have h1:=(show Has w6 (pt g4 (.cells (spC fp) 102)::Trb q m f P S.last S.ak::L) from fq.out.re 3 [2,0]).aS fp;refine bodyPost_ret (gV fp rfl rfl rfl h1) rfl ?_;rw[HRR.out];exact⟨rfl,eY.2 ⟨m,f,P,fW.out,h1.drop⟩,gu.out.aS _ _ _ _⟩
      ·have hlf:Tre.longM (wy ++ [name])=false:=by simpa using hlong
       rw[hlf];have HRR:=hid (by rw[←HR3.out,if_neg hlong]:R=(⟨(fnd x.ab name).getD 0,s2.ae,name⟩,0));obtain⟨dv6,Qp,nm6,Le,hc6,-,IN⟩:=Trb.cD fq.out.drew hb;obtain⟨mm6,rfl⟩:=Le hk;have Pf:=(IN mm6 rfl name (by have:=np.out;omega)).2;have hcb3:w6.drew.cell? ⟨b,3,none⟩=some (.map (some mm6)):=hc6 3;have hc90:w6.drew.cell? ⟨g9,0,none⟩=some (.int .i64 s2.ae):=fq.out.drew.p1.cells 0;have iQ:w6.drew.cell? ⟨g4,0,none⟩=some (.int .i64 0):=fq.out.drew.p2.cells 0;have iP:w6.drew.cell? ⟨g4,1,none⟩=some (.int .i64 0):=fq.out.drew.p2.cells 1;have iS:w6.drew.cell? ⟨g4,2,none⟩=some (sV []):=fq.out.drew.p2.cells 2;have ja:=fq.out.drew.p2.thaw 0;have jf:=fq.out.drew.p2.thaw 1;have jh:=fq.out.drew.p2.thaw 2;clear IN hc6;have Nk:w6.cell? ⟨g4,0,none⟩=some (.int .i64 0):=iQ;have NK:w6.cell? ⟨g4,1,none⟩=some (.int .i64 0):=iP;have MX:w6.cell? ⟨g4,2,none⟩=some (sV []):=iS;have NQ:=fq.out.p2.thaw 0;have Ns:=fq.out.p2.thaw 1;have Nm:=fq.out.p2.thaw 2;go_upto_region 12 with fail
       go_region
       go_wp2_with fail
       have h1:=(show Has w6.drew (pt g4 (.cells (spC fp) 102)::Trb q m f P S.last S.ak::L) from fq.out.drew.re 3 [2,0]).aS ⟨(fnd x.ab name).getD 0,s2.ae,name⟩;refine bodyPost_ret (gV ⟨(fnd x.ab name).getD 0,s2.ae,name⟩ rfl rfl rfl h1) rfl ?_;rw[HRR.out];exact⟨rfl,eY.2 ⟨m,f,P,fW.out,h1.drop⟩,gu.out.drew.aS _ _ _ _⟩
    ·have HRR:=hid (by rw[←HR2.out,if_pos hk]:R=(fp,7));go_wp2_with fail
     have h1:=(show Has w4 (pt g4 (.cells (spC fp) 102)::Trc q S::L) from gC.out.re 3 [1,2]).aS fp;refine bodyPost_ret (gV fp rfl rfl rfl h1) rfl ?_;rw[HRR.out];exact⟨rfl,h1.drop,iG.out.aS _ _ _ _⟩
   ·have HRR:=hid (by rw[←HR1.out,if_pos he2]:R=(fp,e2))
    as_aux_lemma=>exact za3
 ·have HRR:=hid (by rw[←HR.out,if_pos he]:R=(fp,e1));go_wp2_with fail
  have h1:=(show Has w1 (pt g4 (.cells (spC fp) 102)::Trc q S::L) from eT.out).aS fp;refine bodyPost_ret (gV fp rfl rfl rfl h1) rfl ?_;rw[HRR.out];exact⟨rfl,h1.drop,ff.out.aS _ _ _ _⟩
theorem DS (q:Nat)(S:Tre)(o:Opm)(ov:Value)(mx:Int)(w:World)(L:List HP)(hk:o.aa=16∨o.aa=17)(hW:Wk S)(hM:MxL mx L)(hp:o.ag.length≤100000)(hdl:∀ n x,fnd S.ac n=some x→x.data.length≤100000∧x.ab.length≤1000000)(hO:Has w (Trc q S::L)) :
  zCl 60 #[.pointer (some ⟨q,0,none⟩),opV o ov] w fun e w'=>e=.returned (fL (S.stat o.ag (o.aa==16)) eS eS)∧Has w' (Trc q S::L)∧Keep w w':=by
 have HF:=hid (fun(w:World)(L':List HP)(hM:MxL mx L')(hO:Has w (Trc q S::L'))=>o4 q S o.ag (o.aa==16) mx w L' hW hM hp hO);have lr:=hid (gh hW o.ag (o.aa==16));generalize hR:S.stat o.ag (o.aa==16)=R;unfold Tre.stat at hR;generalize S.find o.ag (o.aa==16)=F at *;obtain⟨s2,e2⟩:=F;dsimp only at *;have HR:=hid hR;have HM:=hid hM;have pI:=hid hdl;have HO:=hid hO;clear hO hR hW hM hp hdl;unfold opV opC;go_enter Tryz.func60,Tryz.ntmps60
 go_upto_region 1 with fail
 obtain⟨w1,g3,g4,ew,e4,e3,eT,ff⟩:=f9 HO.out o ov;rw[ew,e4,e3];clear HO ew e4 e3;have hp0:=eT.out.p1.e0;have iK:=eT.out.p1.e5;go_cut [5,6] (fun p5 e6 wx=>∃ (w3:World) (g5:Nat),w3=wx∧e6=.int .i64 e2∧p5=.pointer (some ⟨g5,0,none⟩)∧Hid (Has w3 (Trc q S::pt g5 (.cells (spC s2) 102)::pt g4 zA::L))∧Hid (Keep w w3))
 case first =>
  go_wp2_with fail
  refine st (HF.out w1 _ ((HM.out.cons (pt g3 (.cells (opC o ov) 33))).cons (pt g4 zA)) (eT.out.re 3 [2,0,1])) (ff.out) fun w2 eZ fu=>?_;try dsimp only
  unfold spV spC;go_wp2_with fail
  go_meet
  exact⟨_,_,rfl,rfl,rfl,hid ((eZ.out.alloc (.cells (spC s2) 102)).re 4 [1,0,2]),hid (fu.out.alloc _)⟩
 case rest =>
  obtain⟨w3,g5,rfl,rfl,rfl,eW,fH⟩:=hcut;clear eT ff hp0 iK HF;have fa:=hid eW.out.vl;obtain⟨hz0,hz1,hz2,hz3,gP,gH,hy0,hy1,hy2,hy3,hy4,gG⟩:=Has.az (fa.out);by_cases he:e2=0
  ·subst he;obtain⟨x,hx⟩:=lr.out rfl;have hat:S.at_ s2.ae=x:=by unfold Tre.at_;rw[hx];rfl
   have pT:=hid (pI.out _ _ hx);have HRR:=hid (by rw[←HR.out,if_neg (fun h=>h rfl),hat]:R=⟨0,(x.data.length:Int)+x.ab.length,x.aa,x.ah,[],[]⟩);clear hz0 hz1 hz2 hz3 gP gH hy0 hy1 hy2 hy3 hy4 gG HR;obtain⟨m,f,P,hJ,h⟩:=eY.1 eW.out.drew;have fW:=hid hJ;have hx':=hx;rw[←hJ.1] at hx';obtain⟨b,hb,hl⟩:=Trb.look h hx';have hq:=(Trb.cells h).1;have hs0:w3.drew.cell? ⟨g5,0,none⟩=some (.int .i64 s2.ae):=h.p1.cells 0;obtain⟨A,B,dv,wv,nm,kj,hnm,km⟩:=Trb.take h hb;have nZ:=hid kj;have lg:=hid hnm;have HP:=hid km;clear h hJ km hnm kj hx';go_upto_region 4 with fail
   refine eP (fun w'=>w'.cell? ⟨q,0,none⟩=some (.map (some m))∧w'.cell? ⟨g5,0,none⟩=some (.int .i64 s2.ae)∧(Instr.lookup tNo (.map (some m)) (.int .i64 s2.ae) false).run Tryz.prog w'=.ok (.pointer (some ⟨b,0,none⟩)) w') (by kernel_rfl) (by kernel_rfl) ⟨hq,hs0,hl⟩ ?_;repeat (first|refine wr3 ?_|refine wk ?_)
   refine eR ?_;have fO:=hid fH.out.drew;clear hq hs0 hl eW fH fa;generalize w3.drew=w4 at *;obtain⟨pd,cd,rfl,-⟩:=(Dat.rd HP.out.p1).form;have Px:(x.data.length:Int)≤100000:=by have:=pT.out.1;omega
   have O4:(x.ab.length:Int)≤1000000:=by have:=pT.out.2;omega
   have PP:(0:Int)≤(x.data.length:Int):=by omega
   have OO:(0:Int)≤(x.ab.length:Int):=by omega
   have hlen:∀ w',Has w' (pt b (.cells (gg x (.slice pd x.data.length cd) wv nm) 82)::Dat x.aa (.slice pd x.data.length cd) x.data::Bools wv x.wr::Nms nm x.ab::Trg q m f P S.last S.ak (A++B)::pt g5 (.cells (spC s2) 102)::pt g4 zA::L)→(Builtin.len_ #[tNm] 3 #[.map nm]).run Tryz.prog w'=.ok (.int .i64 x.ab.length) w':=by
    intro w' h;cases nm with
    | none =>
     have h1:=(Has.aC.1 h.drop.drop.drop).1;rw[h1];simp[Builtin.len_,run_underlying jg];rfl
    | some mm=>exact Mk.len h.drop.drop.drop jg _
   have FU:=hid HP.out.drew;have iG:=hid fO.out.drew;have IO:=hlen _ FU.out;clear hlen HP fO;go_upto_region 5 with fail
   refine fT (fun w'=>w'.cell? ⟨b,0,none⟩=some (.int .i64 x.aa)∧w'.cell? ⟨b,1,none⟩=some (.slice pd x.data.length cd)∧w'.cell? ⟨b,3,none⟩=some (.map nm)∧w'.cell? ⟨b,5,none⟩=some (.int .i64 x.ah)∧(Builtin.len_ #[tNm] 3 #[.map nm]).run Tryz.prog w'=.ok (.int .i64 x.ab.length) w') (by kernel_rfl) (by kernel_rfl) (by kernel_rfl) (by decide) ⟨FU.out.cells 0,FU.out.cells 1,FU.out.cells 3,FU.out.cells 5,IO⟩ ?_;generalize w4.drew=w5 at *;repeat (first|refine wr5 ?_|refine wk ?_)
   try rw[ft ((x.data.length:Int)+(x.ab.length:Int)) (by omega)]
   refine eR ?_;have kB:=hid (show Has w5 (pt g4 zA::Trb q m f P S.last S.ak::L) from by
    have h1:=(Trb.shut nZ.out lg.out (FU.out.re 7 [0,1,2,3,4,6]):Has w5 (Trb q m f (A++(s2.ae,b,x)::B) S.last S.ak::pt g4 zA::L))
    rw[←nZ.out] at h1;exact h1.re 2 [1,0])
   obtain⟨hz0,hz1,hz2,hz3,gP,gH,hy0,hy1,hy2,hy3,hy4,gG⟩:=Has.az (kB.out);refine gI rfl (by rfl) ?_;go_simp
   go_wp2_with fail
   have h1:=kB.out.ans ⟨0,(x.data.length:Int)+x.ab.length,x.aa,x.ah,[],[]⟩ eS eS;refine bodyPost_ret (eV rfl rfl h1) rfl ?_;rw[HRR.out];exact⟨rfl,eY.2 ⟨m,f,P,fW.out,h1.drop⟩,iG.out.ans _ _ _ _ _ _ _⟩
  ·have HRR:=hid (by rw[←HR.out,if_pos he]:R=eQ e2);go_wp2_with fail
   have HC:=hid (gD e2 w3 (pt g4 zA::Trc q S::L) fa.out);exact zaY
theorem jF {κ α:Type} [DecidableEq κ] {t:List (κ×α)} {x y:κ} (h:y≠x):fnd (gq t x) y=fnd t y:=by
 unfold fnd gq;induction t with
 | nil=>rfl
 | cons p t ih =>
  rw[List.filter_cons];by_cases hp:p.1=x
  ·rw[if_neg (by simp[hp]),List.find?_cons];have:decide (p.1=y)=false:=by simp;rw[hp];exact fun e=>h e.symm
   rw[this];exact ih
  ·rw[if_pos (by simp[hp]),List.find?_cons,List.find?_cons];cases decide (p.1=y) with
   | true=>rfl
   | false=>exact ih
theorem ur (S:Tre)(n c:Int)(h:c≠n):fnd (S.forget n).ac c=fnd S.ac c:=by
 unfold Tre.forget;cases fnd S.ac n with
 | none=>rfl
 | some x =>
  show fnd (if _ then _ else _:Tre).ac c=_;split
  ·exact jF h
  ·rfl
theorem j7 (S:Tre)(n c:Int)(y:Nod):fnd (S.au n y).ac c=if c=n then some y else fnd S.ac c:=fnd_putA
theorem mG {S:Tre}{dir n:Int}{name:Str}{d:Nod}(hd:fnd S.ac dir=some d)(hc:fnd d.ab name=some n)(c:Int)(hcn:c≠n):fnd (S.take dir name).ac c=if c=dir then some (Tre.dirTake d name) else fnd S.ac c:=by
 have hat:S.at_ dir=d:=by unfold Tre.at_;rw[hd];rfl
 have hk:S.kid dir name=n:=by unfold Tre.kid;rw[hat,hc];rfl
 unfold Tre.take;rw[hk,ur _ _ _ hcn,j7,if_neg hcn,j7,hat]
theorem iW (S:Tre)(n:Int):S.within n n=true:=by
 show (if n≠n∧_ then _ else n==n)=true;rw[if_neg (by simp)];simp
theorem mA {κ α:Type} [DecidableEq κ] (t:List (κ×α)) (x:κ):(gq t x).length≤t.length:=List.length_filter_le _ _
theorem Trb.facts {w:World}{L:List HP}{q m f:Nat}{P:List Pn}{last:Int}{T:List Tb.Slot}{n:Int}{b:Nat}{x:Nod}(h:Has w (Trb q m f P last T::L))(hb:(n,b,x)∈P) :
  ∃ nm:Option Nat,w.cell? ⟨b,0,none⟩=some (.int .i64 x.aa)∧w.cell? ⟨b,3,none⟩=some (.map nm)∧(Builtin.len_ #[tNm] 3 #[.map nm]).run Tryz.prog w=.ok (.int .i64 x.ab.length) w∧w.cell? ⟨b,5,none⟩=some (.int .i64 x.ah):=by
 obtain⟨A,B,dv,wv,nm,-,-,hP⟩:=Trb.take h hb;refine⟨nm,hP.cells 0,hP.cells 3,?_,hP.cells 5⟩;exact zbW
end Go.Proofs.YtmgpgbfgemebbaaGreatDoor
