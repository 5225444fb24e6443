/- TEXTS of mine, merged. -/
import Derived.Test.YtmgpgbfgemebbaaGreatDoorM0
import Derived.Test.YtmgpgbfgemebbaaGreatDoorM4
import Derived.Test.YtmgpgbfgemebbaaGreatDoorM1
import Derived.Test.YtmgpgbfgemebbaaGreatDoorM2
set_option linter.all false
set_option maxRecDepth 100000
set_option maxHeartbeats 16000000
namespace Go.Proofs.YtmgpgbfgemebbaaGreatDoor
open Go.RowKit Go.Own
namespace Tre
variable (S:Tre)
def au (n:Int)(x:Nod):Tre:={S with ac:=eX S.ac n x}
def nameOf (t:List (Str×Int))(n:Int):Str:=((t.filter fun p=>decide (p.2=n)).map Prod.fst).flatten
def wayF:Nat→Int→List Str
 | 0,_ => []
 | k+1,n=>if n=1∨(S.at_ n).above=0 then [] else wayF k (S.at_ n).above ++ [nameOf (S.at_ (S.at_ n).above).ab n]
def way (n:Int):List Str:=S.wayF 21 n
def longM (parts:List Str):Bool:=decide (20<parts.length)||decide (200<(ii parts).length)
def place (p:Str):Spt×Int :=
 if (fx p).2.2≠0 then(fp,(fx p).2.2)
 else if (S.find (fx p).1 true).2≠0 then(fp,(S.find (fx p).1 true).2)
 else if (S.at_ (S.find (fx p).1 true).1.ae).aa≠2 then(fp,7)
 else if longM (S.way (S.find (fx p).1 true).1.ae ++ [(fx p).2.1])=true then(fp,11)
 else(⟨(fnd (S.at_ (S.find (fx p).1 true).1.ae).ab (fx p).2.1).getD 0,(S.find (fx p).1 true).1.ae,(fx p).2.1⟩,0)
def dirAdd (d:Nod)(name:Str)(n:Int):Nod:={d with ab:=eX d.ab name n,most:=max d.most ((eX d.ab name n).length:Int)}
def nodAdd (x:Nod)(dir:Int):Nod:=if x.aa=2 then {x with above:=dir,ah:=1} else {x with ah:=x.ah+1}
def add (dir:Int)(name:Str)(n:Int):Tre:=(S.au dir (dirAdd (S.at_ dir) name n)).au n (nodAdd (S.at_ n) dir)
def make (s:Spt)(aa:Int)(data:Str):Tre:=({S with last:=S.last+1,ac:=eX S.ac (S.last+1) ⟨aa,if aa=3 then fF data else [],[],[],0,0,0⟩} : Tre).add s.dir s.name (S.last+1)
def fresh (p:Str):Spt×Int :=
 if (S.place p).2≠0 then(fp,(S.place p).2) else if (S.place p).1.ae≠0 then(fp,6) else(S.place p).1 |> fun s=>(s,0)
end Tre
def fk (n:Nat):Nat:=if 20736≤n then 162 else(n+127) / 128
def fw (x:Nod)(size:Nat):Nod :=
 if size≤x.data.length then {x with data:=x.data.take size,wr:=x.wr.take (fk size)} else {x with data:=x.data++List.replicate (size-x.data.length) 0}
namespace Tre
variable (S:Tre)
def resize (n:Int)(size:Nat):Tre:=S.au n (fw (S.at_ n) size)
end Tre
structure Wy (S:Tre) (rk:Int→Nat):Prop where
 rank:∀ n x,fnd S.ac n=some x→n≠1→x.above≠0→∃ y nm,fnd S.ac x.above=some y∧y.ab.filter (fun p=>decide (p.2=n)) = [(nm,n)]∧rk x.above<rk n∧nm.length≤24
 low:∀ n,rk n≤20
theorem uy {S:Tre}{rk:Int→Nat}(hW:Wy S rk):∀ (k j:Nat) (n:Int) (x:Nod),fnd S.ac n=some x→rk n<k→rk n<j→S.wayF k n=S.wayF j n:=by
 intro k;induction k with
 | zero=>intro j n x _ h;omega
 | succ k ih =>
  intro j n x hn hk hj;rcases j with _|j
  ·omega
  by_cases h1:n=1∨(S.at_ n).above=0
  ·simp only[Tre.wayF,if_pos h1]
  ·simp only[Tre.wayF,if_neg h1];have hx:S.at_ n=x:=by unfold Tre.at_;rw[hn];rfl
   simp only[not_or] at h1;obtain⟨y,nm,hy,-,hr,-⟩:=hW.rank n x hn h1.1 (by rw[←hx];exact h1.2);rw[hx,ih j _ y hy (by omega) (by omega)]
theorem ke {S:Tre}{rk:Int→Nat}(hW:Wy S rk){n:Int}{x:Nod}(hn:fnd S.ac n=some x)(h1:n≠1)(h2:x.above≠0):∃ y nm,fnd S.ac x.above=some y∧y.ab.filter (fun p=>decide (p.2=n)) = [(nm,n)]∧rk x.above<rk n∧nm.length≤24∧S.way n=S.way x.above ++ [nm]:=by
 obtain⟨y,nm,hy,hf,hr,hl⟩:=hW.rank n x hn h1 h2;refine⟨y,nm,hy,hf,hr,hl,?_⟩;have hx:S.at_ n=x:=by unfold Tre.at_;rw[hn];rfl
 have hya:S.at_ x.above=y:=by unfold Tre.at_;rw[hy];rfl
 have hlow:=hW.low n;show S.wayF (20+1) n=S.wayF 21 x.above ++ [nm]
 rw[Tre.wayF,if_neg (by rw[hx];simp[h1,h2]),hx,hya,Tre.nameOf,hf,uy hW 20 21 _ y hy (by omega) (by omega)];simp
theorem ki {S:Tre}{n:Int}(h:n=1∨(S.at_ n).above=0):S.way n = []:=by
 show S.wayF (20+1) n = [];rw[Tre.wayF,if_pos h]
theorem ot {S:Tre}{rk:Int→Nat}(hW:Wy S rk):∀ (k:Nat) (n:Int) (x:Nod),fnd S.ac n=some x→rk n≤k→(S.way n).length≤k:=by
 intro k;induction k with
 | zero =>
  exact zbx
 | succ k ih =>
  intro n x hn hk;by_cases h1:n=1∨(S.at_ n).above=0
  ·rw[ki h1];simp
  ·have hx:S.at_ n=x:=by unfold Tre.at_;rw[hn];rfl
   simp only[not_or] at h1;obtain⟨y,nm,hy,-,hr,-,e⟩:=ke hW hn h1.1 (by rw[←hx];exact h1.2);have:=ih _ y hy (by omega);rw[e];simp;omega
theorem lM {S:Tre}{rk:Int→Nat}(hW:Wy S rk):∀ (k:Nat) (n:Int) (x:Nod),fnd S.ac n=some x→rk n≤k→∀ p∈S.way n,p.length≤24:=by
 intro k;induction k with
 | zero =>
  exact zbx
 | succ k ih =>
  intro n x hn hk;by_cases h1:n=1∨(S.at_ n).above=0
  ·rw[ki h1];simp
  ·have hx:S.at_ n=x:=by unfold Tre.at_;rw[hn];rfl
   simp only[not_or] at h1;obtain⟨y,nm,hy,-,hr,hl,e⟩:=ke hW hn h1.1 (by rw[←hx];exact h1.2);rw[e];intro p hp;rcases List.mem_append.1 hp with h|h
   ·exact ih _ y hy (by omega) p h
   ·rw[List.mem_singleton.1 h];exact hl
def Trg (q m f:Nat)(PB:List Pn)(last:Int)(T:List Tb.Slot)(PC:List Pn):HP:=jd (pt q (.cells (gF m f last) 87)::Mk kInt vPtr m (pnB PB)::Tab f T::pnC PC)
section
variable {w:World} {L:List HP} {q m f b:Nat} {P PB PC A B:List Pn} {last n:Int} {T:List Tb.Slot} {S:Tre} {x y:Nod}
theorem ip:Has w (Trg q m f PB last T PC::L)↔Has w (pt q (.cells (gF m f last) 87)::Mk kInt vPtr m (pnB PB)::Tab f T::(pnC PC++L)):=by
 unfold Trg;rw[Has.aH];rfl
theorem Trg.of (h:Has w (Trb q m f P last T::L)):Has w (Trg q m f P last T P::L):=h
theorem rO:pnC (A++B)=pnC A++pnC B:=List.map_append
theorem Trg.bL (h:Has w (Trg q m f PB last T (A++(n,b,x)::B)::L)):Has w (Ndc b x::Trg q m f PB last T (A++B)::L):=by
 have h1:Has w (pt q (.cells (gF m f last) 87)::Mk kInt vPtr m (pnB PB)::Tab f T::(pnC (A++B)++Ndc b x::L)):=by
  refine(ip.1 h).perm (.cons _ (.cons _ (.cons _ ?_)));rw[rO,rO];show (pnC A++Ndc b x::pnC B++L).Perm (pnC A++pnC B++Ndc b x::L);rw[List.append_assoc,List.append_assoc];refine List.Perm.append_left _ ?_;exact List.perm_middle.symm
 exact(ip.2 h1).perm (.swap _ _ _)
theorem Trg.push (n:Int)(h:Has w (Ndc b x::Trg q m f PB last T PC::L)):Has w (Trg q m f PB last T ((n,b,x)::PC)::L):=by
 have h1:Has w (Trg q m f PB last T PC::Ndc b x::L):=h.perm (.swap _ _ _);refine ip.2 ((ip.1 h1).perm (.cons _ (.cons _ (.cons _ ?_))));exact List.perm_middle
theorem Trg.close (h:Has w (Trg q m f PB last T PC::L))(hp:PC.Perm P)(hb:pnB P=pnB PB)(hn:pnN P=S.ac)(hl:S.last=last)(ht:S.ak=T)(h16:T.length=16):Has w (Trc q S::L):=by
 refine eY.2 ⟨m,f,P,⟨hn,by rw[ht];exact h16⟩,?_⟩;refine fQ.2 ?_;rw[hb,hl,ht];refine(ip.1 h).perm (.cons _ (.cons _ (.cons _ ?_)));exact List.Perm.append_right _ (hp.map _)
theorem Trg.cells (h:Has w (Trg q m f PB last T PC::L)):w.cell? ⟨q,0,none⟩=some (.map (some m))∧w.cell? ⟨q,1,none⟩=some (.int .i64 last)∧w.cell? ⟨q,2,none⟩=some (.pointer (some ⟨f,0,none⟩)) :=
 ⟨(ip.1 h).cells 0,(ip.1 h).cells 1,(ip.1 h).cells 2⟩
theorem Trg.nodup (h:Has w (Trg q m f PB last T PC::L)):(PB.map Prod.fst).Nodup:=by
 have:=Mk.nodup (ip.1 h).p1
 rwa [iv] at this
theorem Trg.look (h:Has w (Trg q m f PB last T PC::L))(hp:(n,b,x)∈PB):(Instr.lookup tNo (.map (some m)) (.int .i64 n) false).run Tryz.prog w=.ok (.pointer (some ⟨b,0,none⟩)) w:=by
 have hk:=(ip.1 h).p1;have hm:(n,some b)∈pnB PB:=List.mem_map.2 ⟨_,hp,rfl⟩;have h1:=Mk.look0 hk lq (Mk.ok hk (List.mem_map_of_mem (f:=Prod.fst) hm));rw[gf (Mk.nodup hk) hm] at h1;exact h1
theorem mw (hd:((A++(n,b,x)::B).map Prod.fst).Nodup):pnN (A++(n,b,y)::B)=eX (pnN (A++(n,b,x)::B)) n y:=by
 have hm:n∈(pnN (A++(n,b,x)::B)).map Prod.fst:=by rw[gr];simp
 unfold eX;rw[if_pos hm];simp only[List.map_append,List.map_cons] at hd;rw[List.nodup_append] at hd;obtain⟨-,h2,h3⟩:=hd;have hnA:∀ p∈A,p.1≠n:=fun p hp e=>h3 p.1 (List.mem_map_of_mem hp) n (by simp) e;have hnB:∀ p∈B,p.1≠n:=fun p hp e=>(List.nodup_cons.1 h2).1 (e ▸ List.mem_map_of_mem hp);unfold pnN;simp only[List.map_append,List.map_cons,if_true];congr 1
 ·rw[List.map_map];exact List.map_congr_left fun p hp=>by simp[hnA p hp]
 ·congr 1;rw[List.map_map];exact List.map_congr_left fun p hp=>by simp[hnB p hp]
theorem Trg.di (h:Has w (Ndc b y::Trg q m f (A++(n,b,x)::B) S.last S.ak (A++B)::L))(hP:pnN (A++(n,b,x)::B)=S.ac)(hT:S.ak.length=16):Has w (Trc q (S.au n y)::L):=by
 have hd:=Trg.nodup h.drop;refine Trg.close (P:=A++(n,b,y)::B) (Trg.push n h) List.perm_middle.symm (by simp[pnB]) ?_ rfl rfl hT;rw[mw hd,hP];rfl
theorem Trg.perm {PC':List Pn}(h:Has w (Trg q m f PB last T PC::L))(hp:PC.Perm PC'):Has w (Trg q m f PB last T PC'::L) :=
 ip.2 ((ip.1 h).perm (.cons _ (.cons _ (.cons _ (List.Perm.append_right _ (hp.map _))))))
theorem Trg.bD {R:List Pn}(h:Has w (Trg q m f PB last T PC::L))(hp:PC.Perm ((n,b,x)::R)):Has w (Ndc b x::Trg q m f PB last T R::L) :=
 Trg.bL (A := []) (Trg.perm h hp)
theorem ny {dir:Int}{d:Nod}(hd:fnd (pnN P) dir=some d)(hn:fnd (pnN P) n=some x)(hne:dir≠n):∃ b b2 R,P.Perm ((dir,b,d)::(n,b2,x)::R):=by
 obtain⟨A,b,B,rfl⟩:=jy hd;obtain⟨A2,b2,B2,e⟩:=jy hn;have hm:(n,b2,x)∈A++B:=by
  have h1:(n,b2,x)∈A++(dir,b,d)::B:=by rw[e];simp
  rcases List.mem_append.1 h1 with h|h
  ·exact List.mem_append_left _ h
  ·rcases List.mem_cons.1 h with h|h
   ·simp only[Prod.mk.injEq] at h;exact absurd h.1.symm hne
   ·exact List.mem_append_right _ h
 obtain⟨A3,B3,e3⟩:=List.append_of_mem hm;refine⟨b,b2,A3++B3,List.perm_middle.trans (.cons _ ?_)⟩;rw[e3];exact List.perm_middle
def pf (dir:Int)(d':Nod)(n:Int)(x':Nod)(p:Pn):Pn:=(p.1,p.2.1,if p.1=n then x' else if p.1=dir then d' else p.2.2)
theorem nB {dir:Int}{d d' x':Nod}{b2:Nat}{R:List Pn}(hp:P.Perm ((dir,b,d)::(n,b2,x)::R))(hnd:(P.map Prod.fst).Nodup)(hne:dir≠n):(P.map (pf dir d' n x')).Perm ((dir,b,d')::(n,b2,x')::R):=by
 refine(hp.map _).trans ?_;have h1:=(hp.map Prod.fst).nodup hnd;simp only[List.map_cons,List.nodup_cons,List.mem_cons,not_or] at h1;obtain⟨⟨-,h2⟩,h3,-⟩:=h1;have e:R.map (pf dir d' n x')=R:=by
  conv=>rhs;rw[←List.map_id R]
  refine List.map_congr_left fun p hp=>?_;have e1:p.1≠n:=fun e=>h3 (e ▸ List.mem_map_of_mem hp);have e2:p.1≠dir:=fun e=>h2 (e ▸ List.mem_map_of_mem hp);simp[pf,e1,e2]
 rw[List.map_cons,List.map_cons,e];simp[pf,hne]
theorem oY {dir:Int}{d' x':Nod} : pnB (P.map (pf dir d' n x'))=pnB P:=by
 unfold pnB;rw[List.map_map];rfl
theorem o5 {dir:Int}{d' x':Nod}(hd:dir∈(pnN P).map Prod.fst)(hn:n∈(pnN P).map Prod.fst):pnN (P.map (pf dir d' n x'))=eX (eX (pnN P) dir d') n x':=by
 have e:eX (pnN P) dir d'=(pnN P).map (fun p=>if p.1=dir then(dir,d') else p):=if_pos hd;have hk:n∈((pnN P).map (fun p=>if p.1=dir then(dir,d') else p)).map Prod.fst:=by rw[jW _ _ _ hd];exact hn
 rw[e];unfold eX;rw[if_pos hk];unfold pnN;rw[List.map_map,List.map_map,List.map_map];refine List.map_congr_left fun p _=>?_;simp only[Function.comp_apply,pf];by_cases e1:p.1=dir
 ·by_cases e2:p.1=n
  ·simp[e1,←e2]
  ·simp[e1,show ¬ dir=n from fun h=>e2 (e1.trans h)]
 ·by_cases e2:p.1=n
  ·have e3:¬ n=dir:=fun h=>e1 (e2.trans h);simp[e2,e3]
  ·simp[e1,e2]
end
def fc (x y:Int):Int:=bits BinOp.and IntKind.i64 x y
structure Ans where
 code:Int
 n:Int
 aa:Int
 ah:Int
 data:List Int
 ab:List Str
def eQ (e:Int):Ans:=⟨e,0,0,0,[],[]⟩
def iJ (ws:List Bool)(a b:Nat):List Bool:=ws.zipIdx.map fun p=>p.1||(decide (a≤p.2)&&decide (p.2<b))
def fE (x:Nod)(off:Nat)(ds:List Int):Nod :=
 let y:=fw x (max x.data.length (off+ds.length))
 {y with data:=y.data.take off++ds++y.data.drop (off+ds.length),wr:=iJ (y.wr++List.replicate (fk (off+ds.length)-y.wr.length) false) (off / 128) (fk (off+ds.length))}
namespace Tre
variable (S:Tre)
def file (fd:Int)(wr:Bool):Tb.Slot×Int :=
 if (Tb.get S.ak fd).2≠0 then(Tb.none4,10) else if wr=true∧fc (Tb.get S.ak fd).1.af 32=0 then(Tb.none4,10) else if (S.at_ (Tb.get S.ak fd).1.ae).aa=2 then(Tb.none4,8) else((Tb.get S.ak fd).1,0)
def read (aa fd n off:Int):Ans×Tre :=
 let g:=S.file fd false
 if g.2≠0 then(eQ g.2,S)
 else if n<0∨(aa=5∧off<0) then(eQ 2,S)
 else
  let o:=if aa=5 then off else g.1.off
  let ds:=((S.at_ g.1.ae).data.drop o.toNat).take n.toNat
  (⟨0,0,0,0,ds,[]⟩,if aa=3 then {S with ak:=(Tb.aM S.ak fd (o+ds.length)).2} else S)
def write (aa fd off:Int)(ds:List Int):Ans×Tre :=
 let g:=S.file fd true
 if g.2≠0 then(eQ g.2,S)
 else if aa=6∧off<0 then(eQ 2,S)
 else
  let o:=if aa=6 then off else if fc g.1.af 8≠0 then((S.at_ g.1.ae).data.length:Int) else g.1.off
  if o>20736-(min ds.length 20736:Nat)∨20736<ds.length then(eQ 15,S)
  else if ds.length=0 then(eQ 0,S)
  else
   let S1:=S.au g.1.ae (fE (S.at_ g.1.ae) o.toNat ds)
   (⟨0,ds.length,0,0,[],[]⟩,if aa=4 then {S1 with ak:=(Tb.aM S1.ak fd (o+ds.length)).2} else S1)
def aG (fd n off:Int):Ans×Tre :=
 let g:=S.file fd false
 if g.2≠0 then(eQ g.2,S)
 else
  let from_:Int:=if n=1 then g.1.off else if n=2 then((S.at_ g.1.ae).data.length:Int) else 0
  if ¬ (n=0∨n=1∨n=2) then(eQ 2,S)
  else if off < - from_∨off>1099511627776-from_ then(eQ 2,S)
  else(⟨0,from_+off,0,0,[],[]⟩,{S with ak:=(Tb.aM S.ak fd (from_+off)).2})
def trunc (fd off:Int):Ans×Tre :=
 let g:=S.file fd true
 if g.2≠0 then(eQ g.2,S)
 else if off<0 then(eQ 2,S)
 else if off>20736 then(eQ 15,S)
 else(eQ 0,S.resize g.1.ae off.toNat)
def stat (p:Str)(fo:Bool):Ans :=
 let r:=S.find p fo
 if r.2≠0 then eQ r.2 else
  ⟨0,(S.at_ r.1.ae).data.length+(S.at_ r.1.ae).ab.length,(S.at_ r.1.ae).aa,(S.at_ r.1.ae).ah,[],[]⟩
def aF (p:Str):Ans×Tre :=
 let r:=S.fresh p
 if r.2≠0 then(eQ r.2,S) else(eQ 0,S.make r.1 2 [])
def ar (s:Spt)(af:Int):Ans×Tre :=
 if s.ae≠0∧(S.at_ s.ae).aa=2∧fc af 32≠0 then(eQ 8,S)
 else if 16≤(Tb.lst S.ak 16).length then(eQ 14,S)
 else
  let S1:=if s.ae=0 then S.make s 1 [] else S
  let n:=if s.ae=0 then S.last+1 else s.ae
  let S2:=if fc af 4≠0 then S1.resize n 0 else S1
  let r:=Tb.opn S2.ak n af
  (⟨r.1.2,r.1.1,0,0,[],[]⟩,{S2 with ak:=r.2})
def aw (p:Str)(af:Int):Ans×Tre :=
 if af<0∨64≤af∨(fc af 12≠0∧fc af 32=0) then(eQ 2,S)
 else if fc af 1≠0 then
  if (S.place p).2≠0 then(eQ (S.place p).2,S)
  else if (S.place p).1.ae≠0∧fc af 2≠0 then(eQ 6,S)
  else if (S.place p).1.ae≠0∨(S.place p).1.dir=0 then
   if (S.find p true).2≠0 then(eQ (S.find p true).2,S) else S.ar (S.find p true).1 af
  else S.ar (S.place p).1 af
 else if (S.find p true).2≠0 then(eQ (S.find p true).2,S) else S.ar (S.find p true).1 af
end Tre
end Go.Proofs.YtmgpgbfgemebbaaGreatDoor
namespace Go.Own
open Go.RowKit
section
variable {P:Program} {ops:Array Oper} {rest:List Oper} {o:Oper} {a:Act} {Q:Exit→Act→World→Prop} {w:World} {l:List HP}
theorem oD (hgd:o.guard=none)(t:TypeId)(ho:o.op=.alloc t)(C:Array Value)(hz:∀ w,(zeroValue t).run P w=.ok (.agg C) w)
  (h:wpList P ops Q rest (a.put o.dst (.pointer (some ⟨w.heap.size,0,none⟩))) (w.alloc (.cells C t))):wpList P ops Q (o::rest) a w:=by
 refine wpList_plain hgd fun K hK=>?_;unfold Oper.wp execOp;simp only[ho,Instr.alloc,newVar,newRow,Value.cells,Sem.run_bind,Sem.run_pure,Result.andThen_ok,hz];exact hK _ _ h
theorem oN (hgd:o.guard=none)(t:TypeId)(x y:Operand)(ho:o.op=.store t x y)(b off:Nat)(C D:Array Value)(T:TypeId)(hO:Has w (pt b (.cells C T)::l))(hx:a.eval x=.pointer (some ⟨b,off,none⟩))(hy:a.eval y=.agg D)
  (hs:∀ w,(sizeOf t).run P w=.ok D.size w) (h1:∀ v∈D.toList,v.oneCell'=true) (hfit:off+D.size≤C.size)
  (h:∀ w',Has w' (pt b (.cells (C.toList.take off++D.toList++C.toList.drop (off+D.size)).toArray T)::l)→Keep w w'→wpList P ops Q rest (a.put o.dst undef) w'):wpList P ops Q (o::rest) a w:=by
 refine wpList_plain hgd fun K hK=>?_;have hst:=run_storeCells_at P b off T D.toList 0 C w hO.lookup (by simpa using hfit) h1;simp only[Nat.add_zero,Array.length_toList] at hst;unfold Oper.wp execOp;simp only[ho,Instr.storeAt,Instr.sureAddr,storeVar,Value.cells,hx,hy,Sem.run_bind,Sem.run_pure,Result.andThen_ok,hs,ne_eq,not_true,if_false,hst];exact hK _ _ (h _ (hO.turn (fun k _ hk=>setRow_other w b k _ hk) (setRow_heap w b C _ T _ hO.lookup)) ⟨rfl,rfl,rfl,by simp⟩)
end
end Go.Own
namespace Go.Proofs.YtmgpgbfgemebbaaGreatDoor
open Go.RowKit Go.Own
def spC (s:Spt):Array Value:=#[.int .i64 s.ae,.int .i64 s.dir,sV s.name]
def spV (s:Spt):Value := .agg (spC s)
def lH:Value→Nat
 | .slice _ n _=>n
 | _=>0
theorem _root_.Go.Own.Has.aS {w:World}{l:List HP}{b:Nat}{s0:Spt}(h:Has w (pt b (.cells (spC s0) 102)::l))(s:Spt):Has (((w.setCell ⟨b,0,none⟩ (.int .i64 s.ae)).setCell ⟨b,1,none⟩ (.int .i64 s.dir)).setCell ⟨b,2,none⟩ (sV s.name)) (pt b (.cells (spC s) 102)::l) :=
 ((h.set 0 (.int .i64 s.ae)).set 1 (.int .i64 s.dir)).set 2 (sV s.name)
theorem _root_.Go.Own.Keep.aS {w0 w:World}(h:Keep w0 w)(b:Nat)(x y z:Value):Keep w0 (((w.setCell ⟨b,0,none⟩ x).setCell ⟨b,1,none⟩ y).setCell ⟨b,2,none⟩ z):=((h.set _ _).set _ _).set _ _
theorem gV {fn:Func}{p p2:Tmp}{tmps:Array Value}{w:World}{L:List HP}{r:Nat}{e:Value}(s:Spt)(h:fn.results=#[.cell p 102,.tmp p2])(ht:tmps.getD p undef=.pointer (some ⟨r,0,none⟩))(he:tmps.getD p2 undef=e)(hO:Has w (pt r (.cells (spC s) 102)::L)) :
  (results fn tmps).run Tryz.prog w=.ok (.tuple #[spV s,e]) w:=by
 have h0:=hO.e0;have h1:=hO.e1;have h2:=hO.e2;unfold results spV spC;exact zbY
theorem Hu (q:Nat)(S:Tre)(at0:Int)(v:Value)(parts:List Str)(fo:Bool)(mx:Int)(w:World)(L:List HP)(hW:Wk S)(hM:MxL mx L)(hat:∃ x,fnd S.ac at0=some x)(hp:parts.length≤800)(Gb:∀ p∈parts,p.length≤24)(hO:Has w (VwS v parts::Trc q S::L)) :
  zCl 144 #[.pointer (some ⟨q,0,none⟩),.int .i64 at0,v,.bool fo] w fun e w'=>e=.returned (.tuple #[spV (S.walk ⟨at0,0,[]⟩ 0 parts fo).1,.int .i64 (S.walk ⟨at0,0,[]⟩ 0 parts fo).2])∧Has w' (Trc q S::L)∧Keep w w':=by
 obtain⟨pv,cv,rfl,-⟩:=(VwS.rd hO).form;have HW:=hid hW;have HM:=hid hM;have Bi:=hid hp;have E2:=hid Gb;have h2:Has w (Trc q S::VwS (.slice pv parts.length cv) parts::L):=hO.re 2 [1,0];obtain⟨m,f,P,⟨hP,hT⟩,h⟩:=eY.1 h2;have fW:=hid (And.intro hP hT);have HO:=hid h.vc;generalize hR:S.walk ⟨at0,0,[]⟩ 0 parts fo=R;have HR:=hid hR;clear hW hM hp Gb hO h2 h hP hT hR;go_enter Tryz.func144,Tryz.ntmps144
 go_wp2_with fail
 go_step3
 go_wp2_with fail
 go_step3
 go_wp2_with fail
 go_loopw [2,11] (fun a i w'=>∃ (s:Spt) (hops:Nat) (ps:List Str),i=.int .i64 hops∧hops≤8∧ps.length≤800+20*hops∧(∃ x,fnd S.ac s.ae=some x)∧lH a=ps.length∧Hid (∀ p∈ps,p.length≤24)∧Hid (S.walk s hops ps fo=R)∧Hid (Has w' (VwS a ps::pt (w.heap.size+1) (.cells (spC s) 102)::pt w.heap.size (.cells (spC fp) 102)::Trb q m f P S.last S.ak::L))∧Hid (Keep w w')) (fun a i _=>(9-(intOf i).toNat)*21+lH a)
 case atStart =>
  refine⟨⟨at0,0,[]⟩,0,parts,rfl,by omega,Bi.out,hat,rfl,E2,HR,hid ?_,hid ?_⟩
  ·have h1:=(HO.out.alloc (.cells (spC fp) 102)).alloc (.cells (spC ⟨at0,0,[]⟩) 102);have e:(w.alloc (.cells (spC fp) 102)).heap.size=w.heap.size+1:=Array.size_push _;rw[e] at h1;exact h1.re 3 [2,0,1]
  ·exact((Keep.refl w).alloc _).alloc _
 case round =>
  obtain⟨s,hops,ps,rfl,hh,hpl,⟨x,hx⟩,hsl,E2,HR,HO,HK⟩:=hrel;have hne:w.heap.size+1≠w.heap.size:=by omega
  generalize w.heap.size=g8 at *;generalize g8+1=g10 at *;have iQ:=HO.out.p2.e0;have iP:=HO.out.p2.e1;have iS:=HO.out.p2.e2;have hcs0:=HO.out.p1.e0;have hcs1:=HO.out.p1.e1;have hcs2:=HO.out.p1.e2;have ht0:=HO.out.p1.thaw 0;have ht1:=HO.out.p1.thaw 1;have ht2:=HO.out.p1.thaw 2;have ja:=HO.out.p2.thaw 0;have jf:=HO.out.p2.thaw 1;have jh:=HO.out.p2.thaw 2;rcases ps with _|⟨p,ps⟩
  ·have HRR:=hid (by rw[←HR.out,Tre.walk]:R=(s,0));obtain⟨pp,pc,rfl,-⟩:=(VwS.rd HO.out).form;go_wp2_with fail
   try rw[Exit.noGoto_ret]
   have h1:=(show Has wr (pt g8 (.cells (spC fp) 102)::Trb q m f P S.last S.ak::L) from HO.out.re 4 [2,3]).aS s;refine bodyPost_ret (gV s rfl rfl rfl h1) rfl ?_;rw[HRR.out];exact⟨rfl,eY.2 ⟨m,f,P,fW.out,h1.drop⟩,HK.out.aS _ _ _ _⟩
  ·obtain⟨pp,pc,rfl,-,-,hcs⟩:=(VwS.rd HO.out.drew).form;obtain⟨gv,ov,rfl,hcs2⟩:=hcs (by simp);have hcv:wr.drew.cell? ⟨gv,ov,none⟩=some (sV p):=hcs2 0 (by simp);have Dp:=hid HO.out.vh;have hx':=hx;rw[←fW.out.1] at hx';obtain⟨b,hb,hl⟩:=Trb.look Dp.out.drew hx';obtain⟨dv,wv,nm,hnm,hc,-,hlk⟩:=Trb.cD Dp.out.drew hb;have hcb0:wr.drew.cell? ⟨b,0,none⟩=some (.int .i64 x.aa):=hc 0;have hcb3:wr.drew.cell? ⟨b,3,none⟩=some (.map nm):=hc 3;have hcq:=(Trb.cells Dp.out.drew).1;have hln:((p::ps).length:Int)=(ps.length:Int)+1:=by simp
   have K7:(0:Int)≤(ps.length:Int):=by omega
   have gC:=hid HO.out.drew;have iG:=hid HK.out.drew;clear hcs hcs2 hc;go_upto_region 4 with fail
   refine eP (fun w'=>w'.cell? ⟨gv,ov,none⟩=some (sV p)∧w'.cell? ⟨q,0,none⟩=some (.map (some m))∧w'.cell? ⟨g10,0,none⟩=some (.int .i64 s.ae)∧(Instr.lookup tNo (.map (some m)) (.int .i64 s.ae) false).run Tryz.prog w'=.ok (.pointer (some ⟨b,0,none⟩)) w') (by kernel_rfl) (by kernel_rfl) ⟨hcv,hcq,hcs0,hl⟩ ?_;repeat (first|refine wr4 ?_|refine wk ?_)
   refine eR ?_;go_upto_region 5 with fail
   go_cut [2] (fun a wx=>∃ (p2:Option Addr) (c2:Nat),a=.slice p2 ps.length c2∧wx=wr.drew∧Hid (Has wx (VwS (.slice p2 ps.length c2) ps::Trb q m f P S.last S.ak::pt g10 (.cells (spC s) 102)::pt g8 (.cells (spC fp) 102)::L)))
   case first =>
    as_aux_lemma=>exact zbb
   case rest =>
    obtain⟨p2,c2,rfl,rfl,lh⟩:=hcut;have hps0:(0:Int)≤(ps.length:Int):=by omega
    clear hcs0 hcs1 hcs2 ht0 ht1 ht2 iQ iP iS ja jf jh hcv;have iQ:wr.drew.cell? ⟨g8,0,none⟩=some (.int .i64 0):=lh.out.p3.cells 0;have iP:wr.drew.cell? ⟨g8,1,none⟩=some (.int .i64 0):=lh.out.p3.cells 1;have iS:wr.drew.cell? ⟨g8,2,none⟩=some (sV []):=lh.out.p3.cells 2;have hcs0:wr.drew.cell? ⟨g10,0,none⟩=some (.int .i64 s.ae):=lh.out.p2.cells 0;have hcs1:wr.drew.cell? ⟨g10,1,none⟩=some (.int .i64 s.dir):=lh.out.p2.cells 1;have hcs2:wr.drew.cell? ⟨g10,2,none⟩=some (sV s.name):=lh.out.p2.cells 2;have ht0:=lh.out.p2.thaw 0;have ht1:=lh.out.p2.thaw 1;have ht2:=lh.out.p2.thaw 2;have ja:=lh.out.p3.thaw 0;have jf:=lh.out.p3.thaw 1;have jh:=lh.out.p3.thaw 2;have hat:S.at_ s.ae=x:=by unfold Tre.at_;rw[hx];rfl
    generalize wr.drew=w1 at *;have EE:=hid (fun(p':Str)(hp':p'∈ps)=>E2.out p' (List.mem_cons_of_mem _ hp'));have Ph:=E2.out p (List.mem_cons_self ..);have I5:=hid (show ∃ y,fnd S.ac (S.up s.ae)=some y from by
     unfold Tre.up;rw[hat];by_cases h0:x.above=0
     ·rw[if_pos h0];exact⟨x,hx⟩
     ·rw[if_neg h0];exact HW.out.above _ _ hx h0)
    by_cases hk:x.aa=2
    ·obtain⟨mm,rfl⟩:=hnm hk;by_cases hpp:p = [46,46]
     ·subst hpp;have HR2:=hid (by rw[←HR.out,Tre.walk,if_neg (by rw[hat,hk];simp),if_pos rfl]:S.walk ⟨S.up s.ae,0,[]⟩ hops ps fo=R);have HA:=hid (EV q S s.ae x w1 (VwS (.slice p2 ps.length c2) ps::pt g10 (.cells (spC s) 102)::pt g8 (.cells (spC fp) 102)::L) hx (eY.2 ⟨m,f,P,fW.out,lh.out.re 4 [1,0,2,3]⟩));clear hlk hnm;go_wp2_with fail
      refine(HA.out).mono ?_;rintro e w' ⟨rfl,rfl⟩;try dsimp only
      go_wp2_with fail
      have h1:=(show Has w1 (pt g10 (.cells (spC s) 102)::VwS (.slice p2 ps.length c2) ps::pt g8 (.cells (spC fp) 102)::Trb q m f P S.last S.ak::L) from lh.out.re 4 [2,0,3,1]).aS ⟨S.up s.ae,0,[]⟩;refine⟨⟨⟨S.up s.ae,0,[]⟩,hops,ps,rfl,hh,by simp only[List.length_cons] at hpl;omega,I5.out,rfl,EE,HR2,hid (h1.re 4 [1,0,2,3]),hid (iG.out.aS _ _ _ _)⟩,?_⟩;simp[intOf,lH]
     ·have hpe:(p == [46,46])=false:=by simpa using hpp
      have Dc:=(hlk mm rfl p (by omega)).1;clear hlk;rcases hf:fnd x.ab p with _|c
      ·have HRR:=hid (by rw[←HR.out,Tre.walk,if_neg (by rw[hat,hk];simp),if_neg hpp,hat,hf]:R=(fp,5));rw[hf] at Dc
       as_aux_lemma=>exact zaN
      ·rw[hf] at Dc;have hlk2:(Instr.lookup tNm (.map (some mm)) (sV p) true).run Tryz.prog w1=.ok (.tuple #[.int .i64 c,.bool true]) w1:=Dc;clear Dc;obtain⟨y,hy⟩:=HW.out.child _ _ hx _ _ hf;have hy':=hy;rw[←fW.out.1] at hy';obtain⟨b2,hb2,hl2⟩:=Trb.look lh.out.drop hy';obtain⟨dv2,wv2,nm2,-,hcy,hrd,-⟩:=Trb.cD lh.out.drop hb2;have Gr:w1.cell? ⟨b2,0,none⟩=some (.int .i64 y.aa):=hcy 0;have Ks:w1.cell? ⟨b2,1,none⟩=some dv2:=hcy 1;have hay:S.at_ c=y:=by unfold Tre.at_;rw[hy];rfl
       clear hcy;go_upto_region 14 with fail
       go_cut [82] (fun a wx=>a=.bool (decide (y.aa=3∧(ps≠[]∨fo=true)))∧wx=w1)
       case first =>
        by_cases hk3:y.aa=3
        ·by_cases hpl0:(0:Int)<(ps.length:Int)
         ·have HB:=hid (show decide (y.aa=3∧(ps≠[]∨fo=true))=true from decide_eq_true ⟨hk3,.inl (by rintro rfl;simp at hpl0)⟩);have hpn:¬ ps = []:=by rintro rfl;simp at hpl0
          have JS:0<ps.length:=by omega
          as_aux_lemma=>exact zbl
         ·have hnil:ps = []:=by
           have:ps.length=0:=by omega
           simpa using this
          have HB:=hid (by subst hnil;cases fo <;> simp[hk3]:decide (y.aa=3∧(ps≠[]∨fo=true))=fo);subst hnil
          as_aux_lemma=>exact zbl
        ·have HB:=hid (show decide (y.aa=3∧(ps≠[]∨fo=true))=false from decide_eq_false fun h=>hk3 h.1)
         as_aux_lemma=>exact zbl
       case rest =>
        obtain⟨rfl,hwx⟩:=hcut;have jK:=hwx.symm;subst jK;by_cases jZ:y.aa=3∧(ps≠[]∨fo=true)
        ·rw[decide_eq_true jZ];have yx:(iH y.data).length≤100000:=by unfold iH;rw[List.length_map];exact HW.out.data _ _ hy jZ.1
         have Fs:=oH hrd;have hml:=Tre.more_len (iH y.data);have hms:=tS (iH y.data);have hwk:S.walk s hops (p::ps) fo=if h:8≤hops then(fp,12) else S.walk ⟨if (fN (iH y.data)).2.1=true then 1 else s.ae,0,[]⟩ (hops+1) ((fN (iH y.data)).1++ps) fo:=by
          rw[Tre.walk,if_neg (by rw[hat,hk];simp),if_neg hpp,hat,hf];show (if (S.at_ c).aa=3∧(ps≠[]∨fo=true) then _ else _)=_;rw[if_pos (by rw[hay];exact jZ),hay]
         rw[hwk] at HR;have Hs:=hid (fun(w:World)(L':List HP)(hM:MxL mx L')(hO:Has w L')=>vU (iH y.data) mx w L' hM yx hO);generalize LC:fN (iH y.data)=TM at *;obtain⟨more,whole,e3⟩:=TM;dsimp only at HR Hs hml hms;generalize iH y.data=str at *;clear hwk LC yx jZ Gr;by_cases GQ:hops=8
         ·have HRR:=hid (by rw[←HR.out,dif_pos (by omega)]:R=(fp,12));subst GQ;rw[show ((8:Nat):Int)=8 from rfl]
          as_aux_lemma=>exact zaN
         ·have hh7:(hops:Int)<8:=by omega
          have hh0:(0:Int)≤(hops:Int):=by omega
          have HR3:=hid (by rw[←HR.out,dif_neg (by omega)]:S.walk ⟨if whole=true then 1 else s.ae,0,[]⟩ (hops+1) (more++ps) fo=R);have Ia:=hid (show ∃ y,fnd S.ac (if whole=true then 1 else s.ae)=some y from by cases whole <;> first|exact⟨x,hx⟩|exact HW.out.root);have np:=hid (by simp only[List.length_cons,List.length_append] at *;omega:more.length+ps.length≤1000∧(more++ps).length≤800+20*(hops+1)∧hops+1≤8∧(9-(hops+1))*21+(more++ps).length<(9-hops)*21+(ps.length+1));have Jc:=hid (show ∀ p'∈more++ps,p'.length≤24 from fun p' hp'=>(List.mem_append.1 hp').elim (hms p') (EE.out p'));obtain⟨pd,cd,rfl,-⟩:=hrd.form;clear hrd hml hms GQ HR;go_wp2_with fail
          refine(Hs.out w1 _ ((((HM.out.cons _).cons _).cons _).cons _) lh.out).mono ?_;rintro e w2 ⟨v2,rfl,hO2,hK2⟩;have eZ:=hid hO2;have fu:=hid ((iG.out).trans hK2);clear hO2 hK2;try dsimp only
          obtain⟨pv2,cv2,rfl,-⟩:=(Strs.rd eZ.out).form;go_wp2_with fail
          refine(BJ _ _ _ more ps _ _ (eZ.out.alloc _) (fun w' h=>Strs.rd h) (fun w' h=>VwS.rd h.drop) np.out.1).mono ?_;rintro e w3 ⟨v3,rfl,hO3,hK3⟩;have eW:=hid hO3;have fH:=hid ((fu.out.alloc _).trans hK3);clear hO3 hK3;try dsimp only
          generalize w2.heap.size=gc at *;obtain⟨pv3,cv3,rfl,-⟩:=(Strs.rd eW.out).form;have tx:=hid (VwS.of (eW.out.re 7 [0,5,6,4])).vm;clear hcs0 hcs1 hcs2 ht0 ht1 ht2 iQ iP iS ja jf jh;have hcs0:=tx.out.e0;have hcs1:=tx.out.e1;have hcs2:=tx.out.e2;have ht0:=tx.out.thaw 0;have ht1:=tx.out.thaw 1;have ht2:=tx.out.thaw 2;cases whole
          ·go_wp2_with fail
           have h1:=tx.out.aS ⟨s.ae,0,[]⟩;refine⟨⟨⟨s.ae,0,[]⟩,hops+1,more++ps,by go_num,np.out.2.2.1,np.out.2.1,Ia.out,rfl,Jc,HR3,hid (h1.re 4 [1,0,2,3]),hid (fH.out.aS _ _ _ _)⟩,?_⟩
           as_aux_lemma=>exact zbO
          ·go_wp2_with fail
           have h1:=(tx.out.aS ⟨s.ae,0,[]⟩).aS ⟨1,0,[]⟩;refine⟨⟨⟨1,0,[]⟩,hops+1,more++ps,by go_num,np.out.2.2.1,np.out.2.1,Ia.out,rfl,Jc,HR3,hid (h1.re 4 [1,0,2,3]),hid ((fH.out.aS _ _ _ _).aS _ _ _ _)⟩,?_⟩
           as_aux_lemma=>exact zbO
        ·rw[decide_eq_false jZ];have HR2:=hid (show S.walk ⟨c,s.ae,p⟩ hops ps fo=R from by
          rw[←HR.out,Tre.walk,if_neg (by rw[hat,hk];simp),if_neg hpp,hat,hf];show _=if (S.at_ c).aa=3∧(ps≠[]∨fo=true) then _ else _
          rw[if_neg (by rw[hay];exact jZ)])
         have Gq:=hid (show ∃ y,fnd S.ac c=some y from⟨y,hy⟩);clear hl2 hrd Gr Ks jZ;go_wp2_with fail
         have h1:=(show Has w1 (pt g10 (.cells (spC s) 102)::VwS (.slice p2 ps.length c2) ps::pt g8 (.cells (spC fp) 102)::Trb q m f P S.last S.ak::L) from lh.out.re 4 [2,0,3,1]).aS ⟨c,s.ae,p⟩;refine⟨⟨⟨c,s.ae,p⟩,hops,ps,rfl,hh,by simp only[List.length_cons] at hpl;omega,Gq.out,rfl,EE,HR2,hid (h1.re 4 [1,0,2,3]),hid (iG.out.aS _ _ _ _)⟩,?_⟩;simp[intOf,lH]
    ·have HRR:=hid (by rw[←HR.out,Tre.walk,if_pos (by rw[hat];exact hk)]:R=(fp,7))
     as_aux_lemma=>exact zaN
theorem qo (a b:Value)(xs ys:List Int)(w:World)(ha:Rd w a 1 xs.length (bc xs))(hb:Rd w b 1 ys.length (bc ys)) :
  zCl 62 #[a,b] w fun e w'=>e=.returned (.bool (decide (xs=ys)))∧∃ n,w'=w.drewN n:=by
 obtain⟨pa,ca,rfl,hca,hla,hra⟩:=ha.form;obtain⟨pb,cb,rfl,hcb,hlb,hrb⟩:=hb.form;have CO:=hid hra;have IR:=hid hrb;clear hra hrb ha hb;by_cases hl:xs.length=ys.length
 ·have ht:((xs.length:Int) != (ys.length:Int))=false:=by simp[hl]
  have Hl:=hid hl;clear hl;go_enter Tryz.func62,Tryz.ntmps62
  go_wp2
  go_loopw [5] (fun i w'=>∃ k m:Nat,k≤xs.length∧i=.int .i64 k∧w'=w.drewN m∧Hid (∀ j,j<k→xs[j]? = ys[j]?)) (fun i _=>xs.length-(intOf i).toNat)
  case atStart=>exact⟨0,0,by omega,rfl,rfl,hid (by omega)⟩
  case round =>
   obtain⟨k,m,hk,rfl,rfl,HN⟩:=hrel;by_cases hlt:k<xs.length
   ·have hky:k<ys.length:=by have:=Hl.out;omega
    obtain⟨ga,oa,rfl,ra⟩:=CO.out (by omega);obtain⟨gb,ob,rfl,rb⟩:=IR.out (by omega);have h1:w.cell? ⟨ga,oa+k,none⟩=some (.int .u8 xs[k]):=by rw[ra k (by omega),sJ xs k hlt]
    have h2:w.cell? ⟨gb,ob+k,none⟩=some (.int .u8 ys[k]):=by rw[rb k (by omega),sJ ys k hky]
    clear ra rb;rcases he:(xs[k] != ys[k]) with _|_
    ·have HE:=hid he;go_wp2
     go_quiet (fail)
     go_wp2
     go_roundw
     case rel =>
      refine⟨k+1,_,by omega,by go_num,rfl,hid fun j hj=>?_⟩;by_cases hjk:j=k
      ·subst hjk;have:=HE.out;rw[List.getElem?_eq_getElem hlt,List.getElem?_eq_getElem hky];simpa using this
      ·exact HN.out j (by omega)
     case measure=>simp[intOf];omega
    ·have HE:=hid he;go_wp2
     go_quiet (fail)
     go_wp2
     go_ret
     refine⟨?_,_,World.drewN_drewN ..⟩;have hne:xs≠ys:=by
      intro e;have:=HE.out;subst e;simp at this
     simp[hne]
   ·go_wp2
    go_ret
    refine⟨?_,_,rfl⟩;have he:xs=ys:=by
     apply List.ext_getElem?;intro j;by_cases hj:j<k
     ·exact HN.out j hj
     ·have:=Hl.out;rw[List.getElem?_eq_none (by omega),List.getElem?_eq_none (by omega)]
    simp[he]
 ·have ht:((xs.length:Int) != (ys.length:Int))=true:=by simp;omega
  have Hl:=hid hl;clear hl;go_enter Tryz.func62,Tryz.ntmps62
  go_wp2
  go_ret
  refine⟨?_,0,rfl⟩;have hne:xs≠ys:=by
   intro e;exact Hl.out (by rw[e])
  simp[hne]
theorem nc (v:Value)(xs:List Int)(W:World)(L:List HP)(hO:Has W (Bytes v xs::L))(hsm:xs.length≤1000000) :
  zCl 22 #[v] W fun e w'=>e=.returned (.tuple #[])∧Has w' L∧Keep W w':=by
 obtain⟨p,cap,rfl,hcap,hla,hr⟩:=hO.rd.form;have Hr:=hid hr;have HO:=hid hO;clear hO hr;go_enter Tryz.func22,Tryz.ntmps22
 go_wp2
 go_loopw [2] (fun i w=>∃ k:Nat,k≤xs.length∧i=.int .i64 k∧Hid (∃ ys:List Int,ys.length=xs.length∧Has w (Bytes (.slice p xs.length cap) ys::L))∧Hid (Keep W w)) (fun i _=>xs.length-(intOf i).toNat)
 case atStart=>exact⟨0,by omega,rfl,hid ⟨xs,rfl,HO.out⟩,hid (Keep.refl _)⟩
 case round =>
  obtain⟨k,hk,rfl,HY,HK⟩:=hrel;by_cases hlt:k<xs.length
  ·obtain⟨g,o,rfl,-⟩:=Hr.out (by omega);obtain⟨ys,hy,hO⟩:=HY.out;have ho:o=0:=by
    exact zbX
   subst ho;obtain⟨-,hc,ht,-,-⟩:=hO.aE;have hc1:wr.cell? ⟨g,k,none⟩=some (.int .u8 (ys.getD k 0)):=by
    rw[hc k (by omega),sJ ys k (by omega)];simp[List.getD,hy,hlt]
   have eT:=hid hO;have Hy:=hid hy;clear hc hO hy;go_wp2
   go_roundw
   case rel =>
    refine⟨k+1,by omega,by go_num,hid ⟨ys.set k 238,by simp[Hy.out],?_⟩,hid (HK.out.set _ _)⟩;have:=eT.out.aJ k (by have:=Hy.out;omega) (.int .u8 238);simpa[Bytes,bc,List.map_set] using this
   case measure=>simp[intOf];omega
  ·obtain⟨ys,hy,hO⟩:=HY.out;have eT:=hid hO;have Hy:=hid hy;clear hO hy;go_wp2_with (at_builtin;refine fS rfl _ _ _ rfl Tryz.underlying31 ju rfl (.int .u8 238) (eT.out.alloc' _) rfl 1 _ rfl (by simp) rfl (eU (by have:=Hy.out;omega)) (by have:=Hy.out;omega) ?_)
   exact zb7
theorem EA (q:Nat)(S:Tre)(dir:Int)(name:Str)(n:Int)(d x:Nod)(w:World)(L:List HP)(hd:fnd S.ac dir=some d)(hn:fnd S.ac n=some x)(hne:dir≠n)(hk:d.aa=2)(hl:name.length≤1000000)(hm:d.ab.length<1000000)(hx0:0≤x.ah)(hx1:x.ah<1000000)(hO:Has w (Trc q S::L)) :
  zCl 120 #[.pointer (some ⟨q,0,none⟩),.int .i64 dir,sV name,.int .i64 n] w fun e w'=>e=.returned (.tuple #[])∧Has w' (Trc q (S.add dir name n)::L)∧Keep w w':=by
 obtain⟨m,f,P,⟨hP,hT⟩,h⟩:=eY.1 hO;have hd':=hd;have hn':=hn;rw[←hP] at hd' hn';obtain⟨b,b2,R,hperm⟩:=ny hd' hn' hne;have hnd:=Trb.nodup h;have As:kInt.ok n:=Mk.ok (fQ.1 h).p1 (by rw[iv];exact(hperm.map Prod.fst).mem_iff.2 (by simp));have hq:=(Trb.cells h.drew).1;have hld:=Trg.look (n:=dir) (b:=b) (x:=d) (Trg.of h.drew) (hperm.mem_iff.2 (by simp));have hln:=Trg.look (n:=n) (b:=b2) (x:=x) (Trg.of h.drew) (hperm.mem_iff.2 (by simp));have h1:=(Trg.bD (Trg.of h) hperm).re 2 [1,0];have h2:=Trg.bD h1 (.refl _);obtain⟨dv2,wv2,nm2,oC,h3⟩:=fG.1 h2;obtain⟨dv,wv,nm,hnm,h4⟩:=fG.1 (h3.re 6 [5,0,1,2,3,4]);obtain⟨mm,rfl⟩:=hnm hk;have HO:=hid h4.vh;have o1:=hid hperm;have pP:=hid hnd;have fW:=hid (And.intro hP hT);have lg:=hid hnm;have zJ:=hid oC;have rW:=hid (And.intro hd hn);have HM:=hid hm;have E4:=hid As;have hc3:w.drew.cell? ⟨b,3,none⟩=some (.map (some mm)):=HO.out.p1.cells 3;clear hd' hn' hd hn h h1 h2 h3 h4 hO hperm hnd hP hT hnm oC hm As;go_enter Tryz.func120,Tryz.ntmps120
 go_upto_region 0 with fail
 refine eP (fun w'=>w'.cell? ⟨q,0,none⟩=some (.map (some m))∧(Instr.lookup tNo (.map (some m)) (.int .i64 dir) false).run Tryz.prog w'=.ok (.pointer (some ⟨b,0,none⟩)) w'∧(Instr.lookup tNo (.map (some m)) (.int .i64 n) false).run Tryz.prog w'=.ok (.pointer (some ⟨b2,0,none⟩)) w') (by kernel_rfl) (by kernel_rfl) ⟨hq,hld,hln⟩ ?_;repeat (first|refine wr3 ?_|refine wk ?_)
 refine eR ?_;have gC:=hid HO.out.drew;have iG:=hid (Keep.refl w).drew;clear HO hq hld hln;generalize w.drew=w1 at *;go_wp2_with (at_mapUpdate;refine my gC.out HM.out tNm jg rfl _ _ _ rfl rfl name (Nat.le_trans hl (eU (by omega))) rfl n E4.out rfl ?_;intro w2 hO2 hK2;simp only[Act.put])
 have eZ:=hid hO2.vc;have fu:=hid (iG.out.trans hK2);have hlen:=Mk.len eZ.out.p1.drew jg 3;have hlen2:=Mk.len eZ.out.p1 jg 3;have hcb3:w2.drew.cell? ⟨b,3,none⟩=some (.map (some mm)):=eZ.out.cells 3;have Mi:w2.drew.cell? ⟨b,4,none⟩=some (.int .i64 d.most):=eZ.out.cells 4;have F5:w2.cell? ⟨b,3,none⟩=some (.map (some mm)):=eZ.out.cells 3;have G9:w2.cell? ⟨b,4,none⟩=some (.int .i64 d.most):=eZ.out.cells 4;have MI:=eZ.out.thaw 4;have Mh:=eZ.out.drew.thaw 4;clear hO2 hK2 gC iG hc3;generalize hpl:eX d.ab name n=pl at *;go_upto_region 2 with fail
 go_region
 have eW:=hid (show Has (w2.setCell ⟨b,4,none⟩ (.int .i64 (max d.most (pl.length:Int)))).drew (pt b2 (.cells (gg x dv2 wv2 nm2) 82)::pt b (.cells (gg {d with ab:=pl,most:=max d.most (pl.length:Int)} dv wv (some mm)) 82)::Mk kStr vInt mm pl::Dat d.aa dv d.data::Bools wv d.wr::Dat x.aa dv2 x.data::Bools wv2 x.wr::Nms nm2 x.ab::Trg q m f P S.last S.ak R::L) from((eZ.out.set 4 (.int .i64 (max d.most (pl.length:Int)))).drew).re 5 [4,0,1,2,3]);have fH:=hid ((fu.out.set ⟨b,4,none⟩ (.int .i64 (max d.most (pl.length:Int)))).drew);clear eZ fu hlen hlen2 hcb3 Mi F5 G9 MI Mh;generalize (w2.setCell ⟨b,4,none⟩ (.int .i64 (max d.most (pl.length:Int)))).drew=w3 at *;have hy0:=eW.out.e0;have gG:=eW.out.e5;have KO:=eW.out.e6;have gH:=eW.out.thaw 5;have LS:=eW.out.thaw 6;have hfin:∀ (w':World) (x':Nod),x'.aa=x.aa→x'.data=x.data→x'.wr=x.wr→x'.ab=x.ab→Tre.nodAdd x dir=x'→Has w' (pt b2 (.cells (gg x' dv2 wv2 nm2) 82)::pt b (.cells (gg {d with ab:=pl,most:=max d.most (pl.length:Int)} dv wv (some mm)) 82)::Mk kStr vInt mm pl::Dat d.aa dv d.data::Bools wv d.wr::Dat x.aa dv2 x.data::Bools wv2 x.wr::Nms nm2 x.ab::Trg q m f P S.last S.ak R::L)→Has w' (Trc q (S.add dir name n)::L):=by
  intro w' x' e1 e2 e3 e4 hxe h;have g1:Has w' (Ndc b2 x'::pt b (.cells (gg {d with ab:=pl,most:=max d.most (pl.length:Int)} dv wv (some mm)) 82)::Mk kStr vInt mm pl::Dat d.aa dv d.data::Bools wv d.wr::Trg q m f P S.last S.ak R::L):=fG.2 ⟨dv2,wv2,nm2,by rw[e1];exact zJ.out,by rw[e1,e2,e3,e4];exact h.re 8 [0,5,6,7,1,2,3,4]⟩;have g2:Has w' (Ndc b (Tre.dirAdd d name n)::Ndc b2 x'::Trg q m f P S.last S.ak R::L):=fG.2 ⟨dv,wv,some mm,fun _=>⟨mm,rfl⟩,by
   have FN:Tre.dirAdd d name n={d with ab:=pl,most:=max d.most (pl.length:Int)} := by rw[←hpl];rfl
   rw[FN];exact g1.re 5 [1,3,4,2,0]⟩
  have g3:Has w' (Trg q m f P S.last S.ak ((n,b2,x')::R)::Ndc b (Tre.dirAdd d name n)::L):=Trg.push n (g2.re 3 [1,2,0]);have g4:Has w' (Trg q m f P S.last S.ak ((dir,b,Tre.dirAdd d name n)::(n,b2,x')::R)::L):=Trg.push dir (g3.re 2 [1,0]);have a1:S.at_ dir=d:=by unfold Tre.at_;rw[rW.out.1];rfl
  have a2:S.at_ n=x:=by unfold Tre.at_;rw[rW.out.2];rfl
  refine Trg.close (P:=P.map (pf dir (Tre.dirAdd d name n) n x')) g4 (nB o1.out pP.out hne).symm oY ?_ rfl rfl fW.out.2;rw[o5 (by rw[gr];exact(o1.out.map Prod.fst).mem_iff.2 (by simp)) (by rw[gr];exact(o1.out.map Prod.fst).mem_iff.2 (by simp)),fW.out.1,←hxe];show _=eX (eX S.ac dir (Tre.dirAdd (S.at_ dir) name n)) n (Tre.nodAdd (S.at_ n) dir);rw[a1,a2]
 have n9:=hid hfin;have JI:=hid (show Tre.nodAdd x dir=if x.aa=2 then {x with above:=dir,ah:=1} else {x with ah:=x.ah+1} from rfl);clear hfin hpl;by_cases hk2:x.aa=2
 ·go_wp2_with fail
  go_end0
  refine⟨rfl,n9.out _ {x with above:=dir,ah:=1} rfl rfl rfl rfl (by rw[JI.out,if_pos hk2]) ?_,((fH.out.set _ _).set _ _).set _ _⟩;exact((eW.out.set 5 (.int .i64 (x.ah+1))).set 6 (.int .i64 dir)).set 5 (.int .i64 1)
 ·go_wp2_with fail
  go_end0
  refine⟨rfl,n9.out _ {x with ah:=x.ah+1} rfl rfl rfl rfl (by rw[JI.out,if_neg hk2]) ?_,fH.out.set _ _⟩;exact eW.out.set 5 (.int .i64 (x.ah+1))
end Go.Proofs.YtmgpgbfgemebbaaGreatDoor
namespace Go.Own
open Go.RowKit Go.Maps
section
variable {P:Program} {k e:TypeId} {κ α:Type} [DecidableEq κ] {K:Ky P k κ} {V:El P e α} {w:World} {L:List HP} {b:Nat} {t:List (κ×α)} {o:Oper} {a:Act} {Q:Exit→Act→World→Prop} {R:Act→World→Prop}
theorem Af (h:Has w (Mk K V b t::L))(hl:t.length<1000000)(T:TypeId)(ht:P.underlying T=some (.map k e))(m kx v:Operand)(hop:o.op=Op.mapUpdate T m kx v)(hm:a.eval m=.map (some b))(x:κ)(hx:K.ok x)(hk:a.eval kx=K.val x)(y:α)(hy:V.ok y)(hv:a.eval v=V.val y)
  (hK:∀ w',Has w' (Mk K V b (eX t x y)::L)→Keep w w'→R (a.put o.dst undef) w'):o.wp P a w R Q:=by
 obtain⟨D,h1,h2⟩:=Mk.iff.1 h;obtain⟨w',hrun,r1,r2⟩:=h2.owns.store K.law ht (by rw[h1.size];show t.length<maxLen;unfold maxLen;omega) (K.spell hx) (V.spell hy);unfold Oper.wp;simp[execOp,hop,hm,hk,hv,hrun,Result.andThen];have h3:=h2.bb (jV r2.grown fun r e=>by cases e;rfl) r1;exact hK w' (Mk.iff.2 ⟨_,h1.put x y hx,h3⟩) (Mk.keep r2)
theorem q7 {ops:Array Oper}{rest:List Oper}{Q:Exit→Act→World→Prop}(h:Has w (Mk K V b t::L))(hl:t.length<1000000)(T:TypeId)(ht:P.underlying T=some (.map k e))(hg:o.guard=none)(m kx v:Operand)(hop:o.op=Op.insert T m kx v)(hm:a.eval m=.map (some b))(x:κ)(hx:K.ok x)(hk:a.eval kx=K.val x)(y:α)(hy:V.ok y)(hv:a.eval v=V.val y)
  (hK:∀ w',Has w' (Mk K V b (eX t x y)::L)→Keep w w'→wpList P ops Q rest (a.put o.dst undef) w'):wpList P ops Q (o::rest) a w:=by
 refine wpList_plain hg fun K' hK'=>?_;obtain⟨D,h1,h2⟩:=Mk.iff.1 h;obtain⟨w',hrun,r1,r2⟩:=h2.owns.store K.law ht (by rw[h1.size];show t.length<maxLen;unfold maxLen;omega) (K.spell hx) (V.spell hy);unfold Oper.wp;simp[execOp,hop,hm,hk,hv,hrun,Result.andThen];have h3:=h2.bb (jV r2.grown fun r e=>by cases e;rfl) r1;exact hK' _ _ (hK w' (Mk.iff.2 ⟨_,h1.put x y hx,h3⟩) (Mk.keep r2))
end
end Go.Own
namespace Go.Proofs.YtmgpgbfgemebbaaGreatDoor
open Go.RowKit Go.Own
theorem Trc.last {w:World}{L:List HP}{q:Nat}{S:Tre}(h:Has w (Trc q S::L)):w.cell? ⟨q,1,none⟩=some (.int .i64 S.last):=by
 obtain⟨m,f,P,-,h⟩:=eY.1 h;exact(Trb.cells h).2.1
theorem ts (x:Int)(h0:0≤x)(h1:x≤1000000):kInt.ok x:=by
 show (Lit.int .i64 x).wf=true;unfold Lit.wf;rw[Bool.and_eq_true,decide_eq_true_iff,decide_eq_true_iff];have h1:IntKind.min .i64 = -9223372036854775808:=by decide
 have h2:IntKind.max .i64=9223372036854775807:=by decide
 rw[h1,h2];omega
def hZ (aa:Int):Nod:=⟨aa,[],[],[],0,0,0⟩
theorem yF (q:Nat)(S:Tre)(s:Spt)(aa:Int)(d:Nod)(w:World)(L:List HP)(hk3:aa≠3)(hd:fnd S.ac s.dir=some d)(hk:d.aa=2)(hl:s.name.length≤1000000)(hm:d.ab.length<1000000)(h0:0≤S.last)(h1:S.last<1000000)(hfree:fnd S.ac (S.last+1)=none)(hS:S.ac.length<1000000)(hO:Has w (Trc q S::L)) :
  zCl 54 #[.pointer (some ⟨q,0,none⟩),spV s,.int .i64 aa,sV []] w fun e w'=>e=.returned (.int .i64 (S.last+1))∧Has w' (Trc q (S.make s aa [])::L)∧Keep w w':=by
 obtain⟨m,f,P,⟨hP,hT⟩,h⟩:=eY.1 hO;have fW:=hid (And.intro hP hT);have h:=fQ.1 h;have HO:=hid (show Has w (pt q (.cells (gF m f S.last) 87)::Mk kInt vPtr m (pnB P)::Tab f S.ak::(pnC P++L)) from h);have hq0:=HO.out.e0;have hq1:=HO.out.e1;have KT:=HO.out.thaw 1;have KX:=HO.out.lt;clear h hO hP hT;unfold spV spC;go_enter Tryz.func54,Tryz.ntmps54
 have hmm:=@run_makeMap Tryz.prog;go_upto_region 3 with fail
 have h2:=((HO.out.set 1 (.int .i64 (S.last+1))).alloc (.cells #[.int .i64 s.ae,.int .i64 s.dir,sV s.name] 102)).alloc (.cells #[.int .i64 aa,.slice none 0 0,.slice none 0 0,.map none,.int .i64 0,.int .i64 0,.int .i64 0] 82);have e1:(w.setCell ⟨q,1,none⟩ (.int .i64 (S.last+1))).heap.size=w.heap.size:=by simp
 have e2:((w.setCell ⟨q,1,none⟩ (.int .i64 (S.last+1))).alloc (.cells #[.int .i64 s.ae,.int .i64 s.dir,sV s.name] 102)).heap.size=w.heap.size+1:=by show (Array.push _ _).size=_;rw[Array.size_push,e1]
 rw[e2,e1] at h2;have fu:=hid ((((Keep.refl w).set ⟨q,1,none⟩ (.int .i64 (S.last+1))).alloc (.cells #[.int .i64 s.ae,.int .i64 s.dir,sV s.name] 102)).alloc (.cells #[.int .i64 aa,.slice none 0 0,.slice none 0 0,.map none,.int .i64 0,.int .i64 0,.int .i64 0] 82));have eZ:=hid h2;clear h2 e1 e2 KT KX hq0 hq1;generalize ((w.setCell ⟨q,1,none⟩ (.int .i64 (S.last+1))).alloc (.cells #[.int .i64 s.ae,.int .i64 s.dir,sV s.name] 102)).alloc (.cells #[.int .i64 aa,.slice none 0 0,.slice none 0 0,.map none,.int .i64 0,.int .i64 0,.int .i64 0] 82)=w2 at *;generalize hgs:w.heap.size=gs at *;generalize hgn:gs+1=gn at *;have hfin:∀ w5:World,Has w5 (Mk kInt vPtr m (eX (pnB P) (S.last+1) (some gn))::pt q (.cells (gF m f (S.last+1)) 87)::Tab f S.ak::Ndc gn (hZ aa)::pt gs (.cells (spC s) 102)::(pnC P++L))→Has w5 (Trc q {S with last:=S.last+1,ac:=eX S.ac (S.last+1) (hZ aa)} :: pt gs (.cells (spC s) 102)::L):=by
  intro w5 h5;have hnk:(S.last+1)∉P.map Prod.fst:=by
   have:=fU.1 hfree
   rwa [←fW.out.1,gr] at this
  refine eY.2 ⟨m,f,P ++ [(S.last+1,gn,hZ aa)],⟨?_,fW.out.2⟩,fQ.2 ?_⟩
  ·show pnN _=eX S.ac (S.last+1) (hZ aa);rw[gT _ (fU.1 hfree),←fW.out.1];simp[pnN]
  ·rw[gT _ (by rw[iv];exact hnk)] at h5;have e:pnB (P ++ [(S.last+1,gn,hZ aa)])=pnB P ++ [(S.last+1,some gn)]:=by simp[pnB]
   have e2:pnC (P ++ [(S.last+1,gn,hZ aa)])=pnC P ++ [Ndc gn (hZ aa)]:=by simp[pnC]
   exact zbL
 have n9:=hid hfin;have rY:=hid hfree;have hPl:P.length<1000000:=by
  have:(pnN P).length=P.length:=by simp[pnN]
  rw[fW.out.1] at this;omega
 have ya:=hid (show (fnd (eX S.ac (S.last+1) (hZ aa)) s.dir=some d∧fnd (eX S.ac (S.last+1) (hZ aa)) (S.last+1)=some (hZ aa))∧s.dir≠S.last+1 from by
  have hne:s.dir≠S.last+1:=by intro e;rw[e] at hd;rw[hd] at hfree;cases hfree
  rw[gT _ (fU.1 hfree)];refine⟨⟨?_,?_⟩,hne⟩
  ·exact zca
  ·unfold fnd at *;rw[List.find?_append];generalize S.ac.find? (fun p=>decide (p.1=S.last+1))=o at *;cases o with
   | none=>simp
   | some v=>cases hfree)
 have Nt:=hid (show S.make s aa []=({S with last:=S.last+1,ac:=eX S.ac (S.last+1) (hZ aa)} : Tre).add s.dir s.name (S.last+1) from by
  unfold Tre.make hZ;rw[if_neg hk3])
 clear hfin hfree hd;by_cases hk2:aa=2
 ·subst hk2;have HM:=hid (Mk.made eZ.out kStr vInt);have Lp:=HM.out.p1.cells 3;have JW:=HM.out.p1.thaw 3;go_upto_region 8 with fail
  have fg:=hid (show Has ((w2.alloc (.map #[] 0)).setCell ⟨gn,3,none⟩ (.map (some w2.heap.size))) (Mk kInt vPtr m (pnB P)::pt q (.cells (gF m f (S.last+1)) 87)::Tab f S.ak::Ndc gn (hZ 2)::pt gs (.cells (spC s) 102)::(pnC P++L)) from by
   have h1:=(HM.out.re 2 [1,0]).set 3 (.map (some w2.heap.size));have h2:=((h1.al 4 1).al 5 1).re 5 [2,0,1,3,4];have h3:Has ((w2.alloc (.map #[] 0)).setCell ⟨gn,3,none⟩ (.map (some w2.heap.size))) (Ndc gn (hZ 2)::pt gs (.cells (spC s) 102)::pt q (.cells (gF m f (S.last+1)) 87)::Mk kInt vPtr m (pnB P)::Tab f S.ak::(pnC P++L)):=rK (by show (2:Int)≠3;decide) ⟨.slice none 0 0,.slice none 0 0,some w2.heap.size,fun _=>⟨_,rfl⟩,h2⟩;exact h3.re 5 [3,2,4,0,1])
  have fO:=hid ((fu.out.alloc (.map #[] 0)).set ⟨gn,3,none⟩ (.map (some w2.heap.size)));clear eZ fu HM Lp JW;generalize (w2.alloc (.map #[] 0)).setCell ⟨gn,3,none⟩ (.map (some w2.heap.size))=w4 at *;exact zag
 ·go_upto_region 8 with fail
  have fg:=hid (show Has w2 (Mk kInt vPtr m (pnB P)::pt q (.cells (gF m f (S.last+1)) 87)::Tab f S.ak::Ndc gn (hZ aa)::pt gs (.cells (spC s) 102)::(pnC P++L)) from by
   have h1:=eZ.out;have h2:Has w2 (l0 (([]:List (Str×Int)) = [])::_):=Has.aC.2 ⟨rfl,h1⟩;have h3:=((h2.al 4 1).al 5 1).re 4 [3,0,1,2];have h4:Has w2 (Ndc gn (hZ aa)::pt gs (.cells (spC s) 102)::pt q (.cells (gF m f (S.last+1)) 87)::Mk kInt vPtr m (pnB P)::Tab f S.ak::(pnC P++L)):=rK hk3 ⟨.slice none 0 0,.slice none 0 0,none,fun h=>absurd h hk2,h3⟩;exact h4.re 5 [3,2,4,0,1])
  have fO:=fu;clear eZ fu;generalize w2=w4 at *;exact zag
def ib (s:Tb.Slot):Array Value:=#[.int .i64 s.ae,.int .i64 s.off,.int .i64 s.af]
theorem _root_.Go.Own.Has.eJ {w:World}{l:List HP}{b:Nat}{s0:Tb.Slot}(h:Has w (pt b (.cells (ib s0) 122)::l))(s:Tb.Slot):Has (((w.setCell ⟨b,0,none⟩ (.int .i64 s.ae)).setCell ⟨b,1,none⟩ (.int .i64 s.off)).setCell ⟨b,2,none⟩ (.int .i64 s.af)) (pt b (.cells (ib s) 122)::l) :=
 ((h.set 0 (.int .i64 s.ae)).set 1 (.int .i64 s.off)).set 2 (.int .i64 s.af)
theorem mg {fn:Func}{p p2 p3:Tmp}{tmps:Array Value}{w:World}{L:List HP}{r:Nat}{e1 e2:Value}(s:Tb.Slot)(h:fn.results=#[.cell p 122,.tmp p2,.tmp p3])(ht:tmps.getD p undef=.pointer (some ⟨r,0,none⟩))(he1:tmps.getD p2 undef=e1)(he2:tmps.getD p3 undef=e2)(hO:Has w (pt r (.cells (ib s) 122)::L)) :
  (results fn tmps).run Tryz.prog w=.ok (.tuple #[.agg (ib s),e1,e2]) w:=by
 have h0:=hO.e0;have h1:=hO.e1;have h2:=hO.e2;unfold results ib;rw[h];have ht2:tmps[p]?.getD undef=.pointer (some ⟨r,0,none⟩):=by rw[←ht];simp
 have P6:tmps[p2]?.getD undef=e1:=by rw[←he1];simp
 have OI:tmps[p3]?.getD undef=e2:=by rw[←he2];simp
 clear hO h ht he1 he2;go_simp
section
variable {w:World} {L:List HP} {q m f:Nat} {P:List Pn} {last:Int} {T T':List Tb.Slot}
theorem Trb.take {n:Int}{b:Nat}{x:Nod}(h:Has w (Trb q m f P last T::L))(hb:(n,b,x)∈P):∃ A B dv wv nm,P=A++(n,b,x)::B∧(x.aa=2→∃ m,nm=some m)∧Has w (pt b (.cells (gg x dv wv nm) 82)::Dat x.aa dv x.data::Bools wv x.wr::Nms nm x.ab::Trg q m f P last T (A++B)::L):=by
 obtain⟨A,B,hP⟩:=List.append_of_mem hb;have h1:=Trg.of h;have h2:Has w (Trg q m f P last T (A++(n,b,x)::B)::L):=by rw[←hP];exact h1
 obtain⟨dv,wv,nm,hd,h3⟩:=fG.1 (Trg.bL h2);exact⟨A,B,dv,wv,nm,hP,hd,h3⟩
theorem Trb.shut {n:Int}{b:Nat}{x y:Nod}{A B:List Pn}{dv wv:Value}{nm:Option Nat}(hP:P=A++(n,b,x)::B)(hd:y.aa=2→∃ m,nm=some m)(h:Has w (pt b (.cells (gg y dv wv nm) 82)::Dat y.aa dv y.data::Bools wv y.wr::Nms nm y.ab::Trg q m f P last T (A++B)::L)):Has w (Trb q m f (A++(n,b,y)::B) last T::L):=by
 have h1:Has w (Ndc b y::Trg q m f P last T (A++B)::L):=fG.2 ⟨dv,wv,nm,hd,h⟩;have h2:=Trg.perm (Trg.push n h1) (List.perm_middle (l₁:=A) (l₂:=B) (a:=(n,b,y))).symm;have e:pnB P=pnB (A++(n,b,y)::B):=by rw[hP];simp[pnB]
 have h3:=ip.1 h2;rw[e] at h3;exact fQ.2 h3
theorem Trb.cW {n:Int}{b:Nat}{x y:Nod}{A B:List Pn}{dv wv:Value}{nm:Option Nat}(hk:y.aa≠3)(hP:P=A++(n,b,x)::B)(hd:y.aa=2→∃ m,nm=some m)(h:Has w (pt b (.cells (gg y dv wv nm) 82)::Bytes dv y.data::Bools wv y.wr::Nms nm y.ab::Trg q m f P last T (A++B)::L)):Has w (Trb q m f (A++(n,b,y)::B) last T::L):=Trb.shut hP hd (by rw[nt hk];exact h)
def Trt (q m f:Nat)(P:List Pn)(last:Int):HP:=jd (pt q (.cells (gF m f last) 87)::Mk kInt vPtr m (pnB P)::pnC P)
theorem Trb.ak:Has w (Trb q m f P last T::L)↔Has w (Tab f T::Trt q m f P last::L):=by
 rw[fQ];constructor
 ·intro h;have h1:Has w (Trt q m f P last::Tab f T::L):=by
   unfold Trt;rw[Has.aH];refine h.perm (.cons _ (.cons _ ?_));exact List.perm_middle.symm
  exact h1.perm (.swap _ _ _)
 ·intro h;have h1:Has w (Trt q m f P last::Tab f T::L):=h.perm (.swap _ _ _);unfold Trt at h1;rw[Has.aH] at h1;refine h1.perm (.cons _ (.cons _ ?_));exact List.perm_middle
end
theorem vv (q m f:Nat)(P:List Pn)(S:Tre)(fd:Int)(wr:Bool)(w:World)(L:List HP)(hop:∀ s,Tb.look S.ak fd=some s→∃ x,fnd S.ac s.ae=some x)(hJ:pnN P=S.ac∧S.ak.length=16)(hO:Has w (Trb q m f P S.last S.ak::L)) :
  zCl 118 #[.pointer (some ⟨q,0,none⟩),.int .i64 fd,.bool wr] w fun e w'=>∃ pv,e=.returned (.tuple #[.agg (ib (S.file fd wr).1),pv,.int .i64 (S.file fd wr).2])∧((S.file fd wr).2=0→∃ b x,((S.file fd wr).1.ae,b,x)∈P∧fnd S.ac (S.file fd wr).1.ae=some x∧x.aa≠2∧pv=.pointer (some ⟨b,0,none⟩))∧Has w' (Trb q m f P S.last S.ak::L)∧Keep w w':=by
 have HG:=hid (fun(w:World)(L':List HP)(hO:Has w (Tab f S.ak::L'))=>yA f S.ak fd w L' hJ.2 hO);have Mo:=hid (show (Tb.get S.ak fd).2=0→∃ x,fnd S.ac (Tb.get S.ak fd).1.ae=some x from by
  intro h;unfold Tb.get at *;split at h
  ·rename_i s hs;exact hop s hs
  ·simp at h)
 generalize hR:S.file fd wr=R;unfold Tre.file at hR;generalize Tb.get S.ak fd=g at *;obtain⟨s,eg⟩:=g;dsimp only at *;have HR:=hid hR;have fW:=hid hJ;have HO:=hid (show Has w (Tab f S.ak::Trt q m f P S.last::L) from Trb.ak.1 hO);have GB:=(Trb.cells hO).2.2;clear hO hR hop hJ;go_enter Tryz.func118,Tryz.ntmps118
 go_upto_region 1 with fail
 generalize hg4:w.heap.size=g6 at *;go_cut [9,10] (fun p9 e9 wx=>∃ (w3:World) (g9:Nat),w3=wx∧e9=.int .i64 eg∧p9=.pointer (some ⟨g9,0,none⟩)∧Hid (Has w3 (Trb q m f P S.last S.ak::pt g9 (.cells (ib s) 122)::pt g6 (.cells (ib Tb.none4) 122)::L))∧Hid (Keep w w3))
 case first =>
  subst hg4;have HA:=hid ((HO.out.alloc (.cells (ib Tb.none4) 122)).re 3 [1,2,0]);have hcq:(w.alloc (.cells #[.int .i64 0,.int .i64 0,.int .i64 0] 122)).cell? ⟨q,2,none⟩=some (.pointer (some ⟨f,0,none⟩)):=(Trb.cells (Trb.ak.2 HA.out)).2.2;clear GB;go_wp2_with fail
  refine st (HG.out _ _ HA.out) ((Keep.refl w).alloc _) fun w2 eZ fu=>?_;try dsimp only
  clear hcq;go_wp2_with fail
  go_meet
  exact⟨_,_,rfl,rfl,rfl,hid (Trb.ak.2 ((eZ.out.alloc (.cells (ib s) 122)).re 4 [1,2,0,3])),hid (fu.out.alloc _)⟩
 case rest =>
  obtain⟨w3,g9,rfl,rfl,rfl,eW,fH⟩:=hcut;clear HO GB HG;have iQ:=eW.out.p2.e0;have iP:=eW.out.p2.e1;have iS:=eW.out.p2.e2;have ja:=eW.out.p2.thaw 0;have jf:=eW.out.p2.thaw 1;have jh:=eW.out.p2.thaw 2;have hc90:=eW.out.p1.e0;have hc91:=eW.out.p1.e1;have A9:=eW.out.p1.e2;by_cases he:eg=0
  ·subst he;obtain⟨x,hx⟩:=Mo.out rfl;by_cases hwr:wr=true∧fc s.af 32=0
   ·obtain⟨rfl,ha⟩:=hwr;have HRR:=hid (by rw[←HR.out,if_neg (fun h=>h rfl),if_pos ⟨rfl,ha⟩]:R=(Tb.none4,10));unfold fc at ha;have hab:(bits BinOp.and IntKind.i64 s.af 32==0)=true:=by rw[ha];rfl
    exact zbj
   ·have HR2:=hid (show (if (S.at_ s.ae).aa=2 then(Tb.none4,8) else(s,0))=R from(if_neg hwr).symm.trans ((if_neg (fun h=>h rfl)).symm.trans HR.out));clear HR;have hat:S.at_ s.ae=x:=by unfold Tre.at_;rw[hx];rfl
    rw[hat] at HR2;have hx':=hx;rw[←fW.out.1] at hx';obtain⟨b,hb,hl⟩:=Trb.look eW.out.drew hx';obtain⟨dv,wv,nm,-,hc,-⟩:=Trb.ae eW.out.drew hb;have hcb0:w3.drew.cell? ⟨b,0,none⟩=some (.int .i64 x.aa):=hc 0;have hcq:=(Trb.cells eW.out.drew).1;have gC:=hid eW.out.drew;have iG:=hid fH.out.drew;have hd90:w3.drew.cell? ⟨g9,0,none⟩=some (.int .i64 s.ae):=hc90;have hwr2:wr=false∨(wr=true∧(bits BinOp.and IntKind.i64 s.af 32==0)=false):=by
     cases wr
     ·exact .inl rfl
     ·refine .inr ⟨rfl,?_⟩;have:¬ fc s.af 32=0:=fun h=>hwr ⟨rfl,h⟩;simpa[fc] using this
    clear hwr hx';have hgo:∀ K:Prop,K→K:=fun _ h=>h;rcases hwr2 with hwr2|⟨KR,hwr2⟩
    ·subst hwr2;exact zae
    ·subst KR;exact zae
  ·have HRR:=hid (by rw[←HR.out,if_pos he]:R=(Tb.none4,10));exact zbj
structure Opm where
 aa:Int
 fd:Int
 n:Int
 off:Int
 af:Int
 ag:Str
 aj:Str
abbrev eS:Value := .slice none 0 0
def opC (o:Opm)(dv:Value):Array Value:=#[.int .i64 o.aa,.int .i64 o.fd,.int .i64 o.n,.int .i64 o.off,.int .i64 o.af,sV o.ag,sV o.aj,dv]
def opV (o:Opm)(dv:Value):Value := .agg (opC o dv)
def ji (a:Ans)(dv nv:Value):Array Value:=#[.int .i64 a.code,.int .i64 a.n,.int .i64 a.aa,.int .i64 a.ah,dv,nv]
def fL (a:Ans)(dv nv:Value):Value := .agg (ji a dv nv)
abbrev zA:Obj := .cells (ji (eQ 0) eS eS) 38
section
variable {w w0:World} {L:List HP} {b:Nat}
theorem _root_.Go.Own.Has.ans {c0 c1 c2 c3 c4 c5:Value}(h:Has w (pt b (.cells #[c0,c1,c2,c3,c4,c5] 38)::L))(a:Ans)(dv nv:Value):Has ((((((w.setCell ⟨b,0,none⟩ (.int .i64 a.code)).setCell ⟨b,1,none⟩ (.int .i64 a.n)).setCell ⟨b,2,none⟩ (.int .i64 a.aa)).setCell ⟨b,3,none⟩ (.int .i64 a.ah)).setCell ⟨b,4,none⟩ dv).setCell ⟨b,5,none⟩ nv) (pt b (.cells (ji a dv nv) 38)::L) :=
 (((((h.set 0 (.int .i64 a.code)).set 1 (.int .i64 a.n)).set 2 (.int .i64 a.aa)).set 3 (.int .i64 a.ah)).set 4 dv).set 5 nv
theorem _root_.Go.Own.Keep.ans (h:Keep w0 w)(b:Nat)(c n k l dv nv:Value):Keep w0 ((((((w.setCell ⟨b,0,none⟩ c).setCell ⟨b,1,none⟩ n).setCell ⟨b,2,none⟩ k).setCell ⟨b,3,none⟩ l).setCell ⟨b,4,none⟩ dv).setCell ⟨b,5,none⟩ nv) :=
 (((((h.set _ _).set _ _).set _ _).set _ _).set _ _).set _ _
theorem eV {fn:Func}{p:Tmp}{tmps:Array Value}{a:Ans}{dv nv:Value}(h:fn.results=#[.cell p 38])(ht:tmps.getD p undef=.pointer (some ⟨b,0,none⟩))(hO:Has w (pt b (.cells (ji a dv nv) 38)::L)) :
  (results fn tmps).run Tryz.prog w=.ok (fL a dv nv) w:=by
 have h0:=hO.e0;have h1:=hO.e1;have h2:=hO.e2;have h3:=hO.e3;have h4:=hO.e4;have h5:=hO.e5;unfold results fL ji;rw[h];have ht2:tmps[p]?.getD undef=.pointer (some ⟨b,0,none⟩):=by rw[←ht];simp
 clear hO h ht;go_simp
end
theorem gD (e:Int)(w:World)(L:List HP)(hO:Has w L):zCl 46 #[.int .i64 e] w fun r w'=>r=.returned (fL (eQ e) eS eS)∧Has w' L∧Keep w w':=by
 have HO:=hid hO;clear hO;go_enter Tryz.func46,Tryz.ntmps46
 exact zb0
theorem al2 {w:World}{L:List HP}(hO:Has w L)(a b:Array Value)(s t:TypeId):∃ w1 g3 g4,(w.alloc (.cells a s)).alloc (.cells b t)=w1∧w.heap.size+1=g4∧w.heap.size=g3∧Hid (Has w1 (pt g4 (.cells b t)::pt g3 (.cells a s)::L))∧Hid (Keep w w1):=by
 refine⟨_,_,_,rfl,rfl,rfl,hid ?_,hid (((Keep.refl w).alloc _).alloc _)⟩;have h:=(hO.alloc (.cells a s)).alloc (.cells b t)
 rwa [show (w.alloc (.cells a s)).heap.size=w.heap.size+1 from by show (Array.push _ _).size=_;rw[Array.size_push]] at h
theorem f9 {w:World}{L:List HP}(hO:Has w L)(o:Opm)(ov:Value):∃ w1 g3 g4,(w.alloc (.cells #[.int .i64 o.aa,.int .i64 o.fd,.int .i64 o.n,.int .i64 o.off,.int .i64 o.af,sV o.ag,sV o.aj,ov] 33)).alloc (.cells #[.int .i64 0,.int .i64 0,.int .i64 0,.int .i64 0,eS,eS] 38)=w1∧w.heap.size+1=g4∧w.heap.size=g3∧Hid (Has w1 (pt g4 zA::pt g3 (.cells #[.int .i64 o.aa,.int .i64 o.fd,.int .i64 o.n,.int .i64 o.off,.int .i64 o.af,sV o.ag,sV o.aj,ov] 33)::L))∧Hid (Keep w w1):=al2 hO _ _ _ _
theorem exA {P:Program}{f:FuncId}{E:Int}{w:World}{L:List HP}{b:Nat}{c0 c1 c2 c3 c4 c5:Value}(_:Calls P f #[.int .i64 E] w fun r w'=>r=.returned (fL (eQ E) eS eS)∧Has w' (pt b (.cells #[c0,c1,c2,c3,c4,c5] 38)::L)∧Keep w w')(w':World)(h:Has w' (pt b (.cells #[c0,c1,c2,c3,c4,c5] 38)::L)):Has ((((((w'.setCell ⟨b,0,none⟩ (.int .i64 (eQ E).code)).setCell ⟨b,1,none⟩ (.int .i64 (eQ E).n)).setCell ⟨b,2,none⟩ (.int .i64 (eQ E).aa)).setCell ⟨b,3,none⟩ (.int .i64 (eQ E).ah)).setCell ⟨b,4,none⟩ eS).setCell ⟨b,5,none⟩ eS) (pt b (.cells (ji (eQ E) eS eS) 38)::L):=h.ans _ _ _
theorem lv {p:Prop} (h:p:=by
 refine HC.out.mono ?_;rintro e w9 ⟨rfl,mU,hK9⟩;have fJ:=hid mU;have gQ:=hid (kz.out.trans hK9);clear mU hK9;unfold fL ji eQ;try clear hz0 hz1 hz2 hz3 gP gH hy0 hy1 hy2 hy3 hy4 gG
 obtain⟨hz0,hz1,hz2,hz3,gP,gH,hy0,hy1,hy2,hy3,hy4,gG⟩:=Has.az fJ.out;go_wp2_with fail
 have h1:=exA HC.out _ fJ.out;refine bodyPost_ret (eV rfl rfl h1) rfl ?_;first|rw[HR.out]|rw[HRR.out]
 first
 | exact⟨rfl,h1.drop,gQ.out.ans _ _ _ _ _ _ _⟩
 | exact⟨rfl,fh.2 ⟨g,c,R,HS.out,h1.drop⟩,gQ.out.ans _ _ _ _ _ _ _⟩
 | exact⟨_,rfl,(eY.2 ⟨m,f,P,fW.out,h1.drop⟩:Has _ (Trc q S::L)).al 5 1,gQ.out.ans _ _ _ _ _ _ _⟩
 | exact⟨eS,rfl,(show Has _ (Rts q S::L) from fh.2 ⟨g,c,R,HS.out,h1.drop⟩).al 5 1,gQ.out.ans _ _ _ _ _ _ _⟩
 | exact⟨eS,eS,rfl,(((show Has _ (Rts q S::L) from fh.2 ⟨g,c,R,HS.out,h1.drop⟩).al gx 1).al 5 1),gQ.out.ans _ _ _ _ _ _ _⟩
 | exact⟨eS,eS,rfl,(h1.drop.al gx 1).al 5 1,gQ.out.ans _ _ _ _ _ _ _⟩):p:=h
theorem oR (v:Value)(xs:List Int)(w:World)(L:List HP)(hO:Has w L)(hr:Rd w v 1 xs.length (bc xs))(hsm:xs.length≤1000000000) :
  zCl 87 #[v] w fun e w'=>∃ v',e=.returned v'∧Has w' (Bytes v' xs::L)∧Keep w w'∧l4 v'=l4 v:=by
 obtain⟨p,cap,rfl,hca,hla,hra⟩:=hr.form;have CO:=hid hra;have Hr:=hid hr;have HO:=hid hO;clear hO hra hr;rcases p with _|ad
 ·have hz:xs = []:=by
   exact zbt
  subst hz;have hnil:=Lib.run_eql_slice_nil w 31 5 none 0 cap 0 0 Tryz.underlying31;simp only[Option.isNone] at hnil;go_enter Tryz.func87,Tryz.ntmps87
  exact zcq
 ·have hnil:=Lib.run_eql_slice_nil w 31 5 (some ad) xs.length cap 0 0 Tryz.underlying31;simp only[Option.isNone] at hnil;go_enter Tryz.func87,Tryz.ntmps87
  go_wp2_with (at_builtin;refine jo rfl _ _ _ rfl Tryz.underlying31 ju rfl ((HO.out.alloc (.cells #[] 5)).row_of (n:=0) (cap:=0) (Nat.le_refl _) (Nat.zero_le _) rfl rfl rfl) rfl ad xs.length cap (bc xs) rfl (Hr.out.alloc _) (kA xs) (eU (by omega)) (by omega) ?_)
  intro v' w' kC hK' hN;have oc:=hid kC;have qy:=hid hK';have HN:=hid hN;clear kC hK' hN;go_wp2_with fail
  go_ret
  refine⟨_,rfl,?_,((Keep.refl _).alloc _).trans qy.out,?_⟩
  ·have:=oc.out;simpa[Bytes] using this
  ·exact oc.out.bz HN.out
end Go.Proofs.YtmgpgbfgemebbaaGreatDoor
