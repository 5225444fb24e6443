/- TEXTS of mine, merged. -/
import Derived.Test.YtmgpgbfgemebbaaGreatDoorM0
import Derived.Test.YtmgpgbfgemebbaaGreatDoorM1
set_option linter.all false
set_option maxRecDepth 100000
set_option maxHeartbeats 16000000
namespace Go.Own
open Go.RowKit Go.Maps Go.ChangeMaps Go.MapKept
structure Ky (P:Program) (k:TypeId) (κ:Type) where
 lk:κ→Lit
 val:κ→Value
 ok:κ→Prop
 inj:∀ {x y},lk x=lk y→x=y
 isK:∀ x,WideAt.IsKeyLit (lk x)
 law:Keyed P k
 spell:∀ {x},ok x→keyOf P k (val x)=some (lk x)
 inv:∀ {v l},keyOf P k v=some l→∃ x,v=val x∧l=lk x∧ok x
structure El (P:Program) (e:TypeId) (α:Type) where
 R:Rdr
 enc:α→DataW Unit
 val:α→Value
 ok:α→Prop
 z:α
 spell:∀ {a},ok a→R (val a)=some (enc a,[])
 inv:∀ {v y},R v=some y→∃ a,v=val a∧y.1=enc a∧ok a
 inj:∀ {a b},enc a=enc b→a=b
 zero:∀ w,(zeroValue e).run P w=.ok (val z) w
 okz:ok z
section
variable {P:Program} {k e:TypeId} {κ α:Type} [DecidableEq κ]
structure AlK (K:Ky P k κ) (V:El P e α) (D:DataW Unit) (t:List (κ×α)):Prop where
 tidy:Tidy D
 nodup:(t.map Prod.fst).Nodup
 size:Maps.size D=t.length
 ok:∀ p∈t,K.ok p.1
 yes:∀ p∈t,∀ z,D.atKey (K.lk p.1) z=V.enc p.2
 no:∀ x,x∉t.map Prod.fst→∀ z,D.atKey (K.lk x) z=z
def fnd (t:List (κ×α))(x:κ):Option α:=(t.find? fun p=>decide (p.1=x)).map Prod.snd
theorem fU {t:List (κ×α)}{x:κ} : fnd t x=none↔x∉t.map Prod.fst:=by
 unfold fnd;rw[Option.map_eq_none_iff,List.find?_eq_none];simp only[decide_eq_true_eq,List.mem_map,not_exists,not_and]
theorem fj {t:List (κ×α)}{x:κ}{a:α}(h:fnd t x=some a):(x,a)∈t:=by
 unfold fnd at h;obtain⟨p,hp,rfl⟩:=Option.map_eq_some_iff.1 h;have h1:=List.find?_some hp;simp only[decide_eq_true_eq] at h1;subst h1;exact List.mem_of_find?_eq_some hp
theorem gf {t:List (κ×α)}(hn:(t.map Prod.fst).Nodup){x:κ}{a:α}(h:(x,a)∈t):fnd t x=some a:=by
 induction t with
 | nil=>simp at h
 | cons p t ih =>
  rw[List.map_cons,List.nodup_cons] at hn;unfold fnd;rw[List.find?_cons];rcases List.mem_cons.1 h with rfl|h
  ·simp
  ·have hne:¬ p.1=x:=by rintro rfl;exact hn.1 (List.mem_map.2 ⟨_,h,rfl⟩)
   rw[show decide (p.1=x)=false by simpa using hne];exact ih hn.2 h
def eX (t:List (κ×α))(x:κ)(a:α):List (κ×α):=if x∈t.map Prod.fst then t.map (fun p=>if p.1=x then(x,a) else p) else t ++ [(x,a)]
def gq (t:List (κ×α))(x:κ):List (κ×α):=t.filter fun p=>decide (p.1≠x)
theorem gT {t:List (κ×α)}{x:κ}(a:α)(h:x∉t.map Prod.fst):eX t x a=t ++ [(x,a)]:=if_neg h
variable {K:Ky P k κ} {V:El P e α} {D:DataW Unit} {t:List (κ×α)}
omit [DecidableEq κ] in
theorem Ky.ne (K:Ky P k κ){x y:κ}(h:x≠y):K.lk x≠K.lk y:=fun e=>h (K.inj e)
omit [DecidableEq κ] in
theorem AlK.nil:AlK K V (.map []) [] where
 tidy:=tidy_empty
 nodup:=List.nodup_nil
 size:=rfl
 ok:=by simp
 yes:=by simp
 no:=fun x _ z=>rfl
theorem AlK.has (h:AlK K V D t)(x:κ):Maps.has D (K.lk x)=decide (x∈t.map Prod.fst):=by
 by_cases hx:x∈t.map Prod.fst
 ·rw[decide_eq_true hx];obtain⟨p,hp,rfl⟩:=List.mem_map.1 hx;exact has_true_of_atKey (y:=V.enc p.2) fun z=>h.yes p hp z
 ·rw[decide_eq_false hx];exact has_false_of_atKey fun z=>h.no x hx z
theorem AlK.at_ (h:AlK K V D t)(x:κ)(z:α):D.atKey (K.lk x) (V.enc z)=V.enc ((fnd t x).getD z):=by
 cases hf:fnd t x with
 | none=>exact h.no x (fU.1 hf) _
 | some a=>exact h.yes _ (fj hf) _
theorem jW (t:List (κ×α))(x:κ)(a:α)(h:x∈t.map Prod.fst):(t.map fun p=>if p.1=x then(x,a) else p).map Prod.fst=t.map Prod.fst:=by
 rw[List.map_map];refine List.map_congr_left fun p _=>?_;simp only[Function.comp];split
 ·rename_i e;exact e.symm
 ·rfl
theorem AlK.put (h:AlK K V D t)(x:κ)(a:α)(hx:K.ok x):AlK K V (D.put (K.lk x) (V.enc a)) (eX t x a):=by
 by_cases hm:x∈t.map Prod.fst
 ·unfold eX;rw[if_pos hm];refine⟨h.tidy.put (K.isK x) _,by rw[jW t x a hm];exact h.nodup,?_,?_,?_,?_⟩
  ·rw[size_put h.tidy,h.has,decide_eq_true hm,if_pos rfl,h.size,List.length_map]
  ·intro p hp;obtain⟨q,hq,rfl⟩:=List.mem_map.1 hp;split
   ·exact hx
   ·exact h.ok q hq
  ·intro p hp z;obtain⟨q,hq,rfl⟩:=List.mem_map.1 hp;split
   ·exact atKey_put_same h.tidy.isMap (K.isK x) _ _
   ·rename_i hne;rw[atKey_put_other (K.ne hne)];exact h.yes q hq z
  ·intro y hy z;rw[jW t x a hm] at hy;have hne:y≠x:=by rintro rfl;exact hy hm
   rw[atKey_put_other (K.ne hne)];exact h.no y hy z
 ·rw[gT a hm];refine⟨h.tidy.put (K.isK x) _,?_,?_,?_,?_,?_⟩
  ·rw[List.map_append,List.nodup_append];exact⟨h.nodup,by simp,by rintro y hy z hz rfl;simp at hz;subst hz;exact hm hy⟩
  ·rw[size_put h.tidy,h.has,decide_eq_false hm,if_neg Bool.false_ne_true,h.size];simp
  ·intro p hp;rcases List.mem_append.1 hp with hp|hp
   ·exact h.ok p hp
   ·rw[List.mem_singleton.1 hp];exact hx
  ·intro p hp z;rcases List.mem_append.1 hp with hp|hp
   ·rw[atKey_put_other (K.ne fun e=>hm (by rw[←e];exact List.mem_map_of_mem hp))];exact h.yes p hp z
   ·rw[List.mem_singleton.1 hp];exact atKey_put_same h.tidy.isMap (K.isK x) _ _
  ·intro y hy z;simp only[List.map_append,List.map_cons,List.map_nil,List.mem_append,List.mem_singleton,not_or] at hy;rw[atKey_put_other (K.ne hy.2)];exact h.no y hy.1 z
theorem At (hn:(t.map Prod.fst).Nodup)(x:κ):(gq t x).length+(if x∈t.map Prod.fst then 1 else 0)=t.length:=by
 unfold gq;induction t with
 | nil=>rfl
 | cons p t ih =>
  rw[List.map_cons,List.nodup_cons] at hn;have i:=ih hn.2;rw[List.filter_cons];by_cases e:p.1=x
  ·subst e;rw[if_neg hn.1] at i;simp only[ne_eq,not_true,decide_false,Bool.false_eq_true,if_false,List.map_cons,List.mem_cons,true_or,if_true,List.length_cons];simp only[ne_eq] at i;omega
  ·have hm:(x∈(p::t).map Prod.fst)↔x∈t.map Prod.fst:=by simp[Ne.symm e]
   simp only[ne_eq,e,not_false_eq_true,decide_true,if_true,List.length_cons,hm];simp only[ne_eq] at i;omega
theorem AlK.del (h:AlK K V D t)(x:κ):AlK K V (D.del (K.lk x)) (gq t x) where
 tidy:=h.tidy.del _
 nodup:=h.nodup.sublist ((List.filter_sublist).map _)
 size:=by
  have h1:=size_del h.tidy (k:=K.lk x);rw[h.has] at h1;have h2:=At h.nodup x;rw[h.size] at h1;by_cases hm:x∈t.map Prod.fst
  ·rw[decide_eq_true hm] at h1;rw[if_pos hm] at h2;simp only[if_true] at h1;omega
  ·rw[decide_eq_false hm] at h1;rw[if_neg hm] at h2;simp only[Bool.false_eq_true,if_false] at h1;omega
 ok:=fun p hp=>h.ok p (List.mem_filter.1 hp).1
 yes:=by
  intro p hp z;obtain⟨hp,hx⟩:=List.mem_filter.1 hp;rw[atKey_del_other (K.ne (by simpa using hx))];exact h.yes p hp z
 no:=by
  intro y hy z;by_cases e:y=x
  ·subst e;exact atKey_del_same z
  ·rw[atKey_del_other (K.ne e)];exact zcd
def Mk (K:Ky P k κ)(V:El P e α)(b:Nat)(t:List (κ×α)):HP:=ex fun D:DataW Unit=>sep (l0 (AlK K V D t)) (Mp P k V.R b D)
variable {w w':World} {L:List HP} {b:Nat} {x:κ}
omit [DecidableEq κ] in
theorem Mk.iff:Has w (Mk K V b t::L)↔∃ D,AlK K V D t∧Has w (Mp P k V.R b D::L):=by
 unfold Mk;rw[Has.aY];simp only[Has.bw,Has.aC]
omit [DecidableEq κ] in
theorem Mk.nodup (h:Has w (Mk K V b t::L)):(t.map Prod.fst).Nodup:=by
 obtain⟨D,h1,-⟩:=Mk.iff.1 h;exact h1.nodup
omit [DecidableEq κ] in
theorem Mk.ok (h:Has w (Mk K V b t::L))(hx:x∈t.map Prod.fst):K.ok x:=by
 obtain⟨D,h1,-⟩:=Mk.iff.1 h;obtain⟨p,hp,rfl⟩:=List.mem_map.1 hx;exact h1.ok p hp
theorem Mk.look {T:TypeId}(h:Has w (Mk K V b t::L))(ht:P.underlying T=some (.map k e))(hx:K.ok x) :
  (Instr.lookup T (.map (some b)) (K.val x) true).run P w=.ok (.tuple #[V.val ((fnd t x).getD V.z),.bool (decide (x∈t.map Prod.fst))]) w:=by
 obtain⟨D,h1,h2⟩:=Mk.iff.1 h;obtain⟨v,ps,hr,hv⟩:=h2.owns.look_ok K.law ht (V.zero w) (V.spell V.okz) (K.spell hx);rw[h1.at_] at hv;obtain⟨a,rfl,ha,-⟩:=V.inv hv;rw[hr,h1.has,V.inj ha]
theorem Mk.look0 {T:TypeId}(h:Has w (Mk K V b t::L))(ht:P.underlying T=some (.map k e))(hx:K.ok x) :
  (Instr.lookup T (.map (some b)) (K.val x) false).run P w=.ok (V.val ((fnd t x).getD V.z)) w:=by
 obtain⟨D,h1,h2⟩:=Mk.iff.1 h;obtain⟨v,ps,hr,hv⟩:=h2.owns.lookup K.law ht (V.zero w) (V.spell V.okz) (K.spell hx);rw[h1.at_] at hv;obtain⟨a,rfl,ha,-⟩:=V.inv hv;rw[hr,V.inj ha]
omit [DecidableEq κ] in
theorem Mk.len {T:TypeId}(h:Has w (Mk K V b t::L))(ht:P.underlying T=some (.map k e))(ty:TypeId):(Builtin.len_ #[T] ty #[.map (some b)]).run P w=.ok (.int .i64 t.length) w:=by
 obtain⟨D,h1,h2⟩:=Mk.iff.1 h;rw[h2.owns.len ht,h1.size]
omit [DecidableEq κ] in
theorem Mk.made (h:Has w L)(K:Ky P k κ)(V:El P e α):Has (w.alloc (.map #[] 0)) (Mk K V w.heap.size []::L):=Mk.iff.2 ⟨_,AlK.nil,h.dg P k V.R⟩
theorem Mk.keep {a c:World}{i:Nat}(h:a.mapTurned c i):Keep a c:=(Keep.refl a).grown h.grown
section
variable {ops:Array Oper} {rest:List Oper} {o:Oper} {a:Act} {Q:Exit→Act→World→Prop}
theorem my (h:Has w (Mk K V b t::L))(hl:t.length<1000000)(T:TypeId)(ht:P.underlying T=some (.map k e))(hg:o.guard=none)(m kx v:Operand)(hop:o.op=Op.mapUpdate T m kx v)(hm:a.eval m=.map (some b))(x:κ)(hx:K.ok x)(hk:a.eval kx=K.val x)(y:α)(hy:V.ok y)(hv:a.eval v=V.val y)
  (hK:∀ w',Has w' (Mk K V b (eX t x y)::L)→Keep w w'→wpList P ops Q rest (a.put o.dst undef) w'):wpList P ops Q (o::rest) a w:=by
 obtain⟨D,h1,h2⟩:=Mk.iff.1 h;refine wpList_mapUpdate_in w hg m kx v T hop k e K.law ht V.R b _ D hm h2.owns (by rw[h1.size];show t.length<maxLen;unfold maxLen;omega) _ _ _ hk hv (K.spell hx) (V.enc y) [] (V.spell hy) ?_;intro w' ho htn;have h3:=h2.bb (jV htn.grown fun r e=>by cases e;rfl) ho;exact hK w' (Mk.iff.2 ⟨_,h1.put x y hx,h3⟩) (Mk.keep htn)
theorem mu (h:Has w (Mk K V b t::L))(T:TypeId)(ht:P.underlying T=some (.map k e))(hg:o.guard=none)(m kx:Operand) (hop:o.op=Op.call {callee:=Callee.builtin Builtin.delete,args:=#[m,kx],argTypes:=#[T,k]}) (hm:a.eval m=.map (some b)) (x:κ) (hx:K.ok x) (hk:a.eval kx=K.val x)
  (hK:∀ w',Has w' (Mk K V b (gq t x)::L)→Keep w w'→wpList P ops Q rest (a.put o.dst (.tuple #[])) w'):wpList P ops Q (o::rest) a w:=by
 obtain⟨D,h1,h2⟩:=Mk.iff.1 h;refine wpList_delete_own w hg m kx T k hop e K.law ht V.R b _ D hm h2.owns _ _ hk (K.spell hx) ?_;intro w' ho htn;have h3:=h2.bb (jV htn.grown fun r e=>by cases e;rfl) ho;exact hK w' (Mk.iff.2 ⟨_,h1.del x,h3⟩) (Mk.keep htn)
end
def Mr (K:Ky P k κ)(V:El P e α)(b r:Nat)(t:List (κ×α))(rem:List κ)(cnt:Nat):HP :=
 ex fun D:DataW Unit=>ex fun left:Lit→Bool=>sep (l0 (AlK K V D t∧∀ x,left (K.lk x)=true↔x∈rem)) (Rg P k V.R b r D left cnt)
variable {r cnt:Nat} {rem:List κ}
omit [DecidableEq κ] in
theorem Mr.iff:Has w (Mr K V b r t rem cnt::L)↔∃ D left,(AlK K V D t∧∀ x,left (K.lk x)=true↔x∈rem)∧Has w (Rg P k V.R b r D left cnt::L):=by
 unfold Mr;exact zcu
omit [DecidableEq κ] in
theorem Mr.left (h:Has w (Mr K V b r t rem cnt::L)):w.rangeLeft b r=cnt:=by
 obtain⟨D,left,-,h⟩:=Mr.iff.1 h;exact h.bQ.left_eq
omit [DecidableEq κ] in
theorem Mr.end (h:Has w (Mr K V b r t rem cnt::L)):Has w (Mk K V b t::L):=by
 obtain⟨D,left,h1,h⟩:=Mr.iff.1 h;exact Mk.iff.2 ⟨D,h1.1,h.eG⟩
section
variable {ops:Array Oper} {rest:List Oper} {o:Oper} {a:Act} {Q:Exit→Act→World→Prop}
theorem gY (h:Has w (Mk K V b t::L))(T:TypeId)(ht:P.underlying T=some (.map k e))(hg:o.guard=none)(m:Operand)(hop:o.op=Op.range T m)(hm:a.eval m=.map (some b))
  (hK:∀ w',Has w' (Mr K V b w.heap.size t (t.map Prod.fst) t.length::L)→Keep w w'→w'.heap.size=w.heap.size+1→wpList P ops Q rest (a.put o.dst (.pointer (some ⟨w.heap.size,0,none⟩))) w'):wpList P ops Q (o::rest) a w:=by
 obtain⟨D,h1,h2⟩:=Mk.iff.1 h;refine wpList_range_own w hg m T hop k e K.law ht V.R b _ D hm h2.owns ?_;intro w' hr hgr hs;have h3:=h2.dB hr hgr;rw[h1.size] at h3;exact hK w' (Mr.iff.2 ⟨D,_,⟨h1,fun x=>by rw[h1.has,decide_eq_true_iff]⟩,h3⟩) ((Keep.refl w).grown hgr) hs
theorem ik (h:Has w (Mr K V b r t rem cnt::L))(hg:o.guard=none)(it:Operand)(hop:o.op=Op.next it false)(hit:a.eval it=.pointer (some ⟨r,0,none⟩))
  (hDone:rem = []→wpList P ops Q rest (a.put o.dst (.tuple #[.bool false])) w)
  (hMore:∀ (p:κ×α) (w':World) (cnt':Nat),p∈t→p.1∈rem→K.ok p.1→Has w' (Mr K V b r t (rem.filter fun y=>decide (y≠p.1)) cnt'::L)→cnt'<cnt→Keep w w'→w'.heap.size=w.heap.size →
   (Instr.entry (.pointer (some ⟨r,0,none⟩))).run P w'=.ok (.tuple #[K.val p.1,V.val p.2]) w'→wpList P ops Q rest (a.put o.dst (.tuple #[.bool true,K.val p.1,V.val p.2])) w'):wpList P ops Q (o::rest) a w:=by
 obtain⟨D,left,⟨h1,hl⟩,h2⟩:=Mr.iff.1 h;refine wpList_next_ranges w hg it hop k K.law V.R K.val V.val (fun key kl hk=>by obtain⟨x,rfl,-⟩:=K.inv hk;exact⟨x,rfl⟩) (fun v y hv=>by obtain⟨c,rfl,-⟩:=V.inv hv;exact⟨c,rfl⟩) b r _ D left cnt hit h2.bQ (fun hc hno=>hDone ?_) ?_
 ·rw[List.eq_nil_iff_forall_not_mem];intro x hx;have:=(hl x).2 hx;rw[hno] at this;cases this
 ·intro x c kl y w' cnt' hk hlk hv hat hrg hlt hgr hsz hen;obtain⟨x',ex,rfl,hw⟩:=K.inv hk;rw[ex] at hen hk;have hx:x'∈t.map Prod.fst:=by
   refine Classical.byContradiction fun hx=>?_;have e1:=(hat .nil).symm.trans (h1.no x' hx .nil);have e2:=(hat (.map [])).symm.trans (h1.no x' hx (.map []));rw[e1] at e2;cases e2
  obtain⟨p,hp,rfl⟩:=List.mem_map.1 hx;obtain⟨c',ec,hy,-⟩:=V.inv hv;have hpc:p.2=c':=V.inj ((h1.yes p hp .nil).symm.trans ((hat .nil).trans hy));rw[ec,←hpc] at hen;rw[ex,ec,←hpc];refine hMore p w' cnt' hp ((hl _).1 hlk) hw (Mr.iff.2 ⟨D,_,⟨h1,fun z=>?_⟩,h2.eo hrg hgr⟩) hlt ((Keep.refl w).grown hgr) hsz hen;have e:(K.lk z).sameKey (K.lk p.1)=decide (z=p.1):=by
   by_cases hz:z=p.1
   ·subst hz;rw[decide_eq_true rfl];exact WideAt.sameKey_self (K.isK _)
   ·rw[decide_eq_false hz];cases hs:(K.lk z).sameKey (K.lk p.1) with
    | false=>rfl
    | true=>exact absurd (K.inj (WideAt.sameKey_eq hs)) hz
  rw[e,Bool.and_eq_true,hl,List.mem_filter];simp
end
end
end Go.Own
namespace Go.Proofs.YtmgpgbfgemebbaaGreatDoor
open Go.RowKit Go.Own Go.Maps Go.ChangeMaps
abbrev Str:=List UInt8
abbrev sB (l:Str):ByteArray:=⟨l.toArray⟩
abbrev sV (l:Str):Value := .string (sB l)
abbrev gx:TypeId:=9
abbrev xf:TypeId:=3
abbrev tPn:TypeId:=78
abbrev tNm:TypeId:=79
abbrev tNo:TypeId:=83
theorem C9:Tryz.prog.underlying gx=some .string:=by kernel_rfl
theorem AS:Tryz.prog.underlying xf=some (.int .i64):=by kernel_rfl
theorem jg:Tryz.prog.underlying tNm=some (.map gx xf):=by kernel_rfl
theorem lq:Tryz.prog.underlying tNo=some (.map xf tPn):=by kernel_rfl
def kInt:Ky Tryz.prog xf Int where
 lk x := .int .i64 x
 val x := .int .i64 x
 ok x:=(Lit.int .i64 x).wf=true
 inj h:=by simpa using h
 isK x:=by simp[WideAt.IsKeyLit]
 law:=int_keyed AS
 spell h:=keyOf_int_mk AS h
 inv h:=by obtain⟨x,rfl,e,hw⟩:=Maps.keyOf_int_inv AS h;exact⟨x,rfl,e,hw⟩
def kStr:Ky Tryz.prog gx Str where
 lk l := .string l
 val l:=sV l
 ok l:=l.length≤maxLen
 inj h:=by simpa using h
 isK x:=by simp[WideAt.IsKeyLit]
 law:=string_keyed C9
 spell h:=by
  unfold keyOf;simp[C9,mapKey,Lit.wf];exact h
 inv h:=by
  obtain⟨s,rfl,rfl,hs⟩:=WideMaps.string_of_keyOf C9 h;refine⟨s.data.toList,by cases s;simp[sV,sB],rfl,?_⟩;have e:s.data.toList.length=s.size:=Array.length_toList;rw[e];exact hs
noncomputable def vInt:El Tryz.prog xf Int where
 R:=plainElem Tryz.prog xf
 enc a := .lit (.int .i64 a)
 val a := .int .i64 a
 ok a:=(Lit.int .i64 a).wf=true
 z:=0
 spell h:=plainElem_int AS h
 inv h:=by obtain⟨c,rfl,rfl,hc⟩:=plainElem_int_inv AS h;exact⟨c,rfl,rfl,hc⟩
 inj h:=by simpa using h
 zero w:=(Tryz.zeroValue3 w).trans rfl
 okz:=by decide
abbrev pV:Option Nat→Value
 | some b => .pointer (some ⟨b,0,none⟩)
 | none => .pointer none
def GC:Rdr
 | .pointer (some ⟨b,0,none⟩)=>some (.lit (.int .i64 b),[])
 | .pointer none=>some (.lit (.int .i64 (-1)),[])
 | _=>none
def GI:Option Nat→DataW Unit
 | some b => .lit (.int .i64 b)
 | none => .lit (.int .i64 (-1))
def vPtr:El Tryz.prog tPn (Option Nat) where
 R:=GC
 enc:=GI
 val:=pV
 ok _:=True
 z:=none
 spell:=by intro a _;cases a <;> rfl
 inv:=by
  intro v y h;unfold GC at h;split at h
  ·rename_i b;simp only[Option.some.injEq] at h;subst h;exact⟨some b,rfl,rfl,trivial⟩
  ·simp only[Option.some.injEq] at h;subst h;exact⟨none,rfl,rfl,trivial⟩
  ·cases h
 inj:=by
  intro a b h;cases a <;> cases b <;> simp only[GI,DataW.lit.injEq,Lit.int.injEq,true_and] at h
  ·rfl
  ·omega
  ·omega
  ·rw[show _=_ from Int.ofNat.inj h]
 zero w:=(Tryz.zeroValue78 w).trans rfl
 okz:=trivial
end Go.Proofs.YtmgpgbfgemebbaaGreatDoor
