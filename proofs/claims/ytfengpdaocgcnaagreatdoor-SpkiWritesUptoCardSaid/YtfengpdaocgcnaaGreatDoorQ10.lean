/- Contracts of functions, and calls. -/
import Derived.Test.YtfengpdaocgcnaaGreatDoorQ09
namespace Go.Proofs.YtfengpdaocgcnaaGreatDoor
open Go.RowKit
mutual
def V.cl:V→Bool
 | .val _=>true
 | .bb _=>true
 | .str _=>true
 | .gd _ v=>v.cl
 | .by _=>true
 | .sq _ _ l=>clL l
 | .st l=>clL l
 | .tu l=>clL l
 | .pe s _ _=>s.cl
 | .op _ _=>false
 | .ro _=>false
 | .vw _ _ _ _=>false
 | .rp _ _ _ _=>false
 | .own _ _ _=>false
 | .any=>true
 | .nn=>true
 | .ifc _ v=>v.cl
def clL:List V→Bool
 |[]=>true
 |v::r=>v.cl&&clL r
end
theorem clL_all: ∀(l:List V),clL l=l.all V.cl
 |[]=>rfl
 |v::r=>by rw[clL,clL_all r];rfl
mutual
def V.sc:V→Bool
 | .val _=>true
 | .bb _=>true
 | .str _=>true
 | .gd _ v=>v.sc
 | .st l=>scL l
 | .tu l=>scL l
 | .op _ _=>true
 | .ro _=>true
 | .vw _ _ _ _=>true
 | .rp _ _ _ _=>true
 | .own _ s _=>match s with
  | .by _=>true
  |_=>false
 | .any=>true
 | .nn=>true
 | .ifc _ v=>v.sc
 |_=>false
def scL:List V→Bool
 |[]=>true
 |v::r=>v.sc&&scL r
end
theorem scL_all: ∀(l:List V),scL l=l.all V.sc
 |[]=>rfl
 |v::r=>by rw[scL,scL_all r];rfl
def scO:Ob→Bool
 | .box _ v=>v.sc
 | .row _ s=>match s with
  | .by _=>true
  | .sq _ _ l=>scL l
  |_=>false
def scH:List (Nat×Ob)→Bool
 |[]=>true
 |(_,o)::r=>scO o&&scH r
def V.ex0:V→Option Value
 | .val x=>some x
 | .bb b=>some (.bool b)
 | .str l=>some (.string ⟨l.toArray⟩)
 |_=>none
def exL:List V→Option (List Value)
 |[]=>some []
 |v::r=>match v.ex0,exL r with
  |some x,some xs=>some (x::xs)
  |_,_=>none
def V.exact (v:V):Option Value:=
 match v with
 | .tu l=>match exL l with
  |some xs=>some (.tuple xs.toArray)
  |none=>none
 |v=>v.ex0
def Cx.bare (F:Nat→Prop):Cx:=⟨F,fun _=>none,fun _=>none⟩
def Bodied (P:Program) (f:FuncId):Prop:= ∃fn,P.funcs[f]?=some fn∧fn.body.isNone=false∧(fn.name== "runtime.NumGoroutine")=false
def Fn (P:Program) (J:Inv) (f:FuncId) (fr:Bool) (args:List V) (res:V):Prop:=
 Bodied P f∧ ∀(w:World) (F:Nat→Prop) (vs:List Value),J.I w F→(∀b,F b→b<w.heap.size)→vs.length=args.length→(∀(i:Nat) (v:V) (x:Value),args[i]?=some v→vs[i]?=some x→Rep w (.bare F) v x)→
  Calls P f vs.toArray w fun e w'=> ∃v,e= .returned v∧Ext w w'∧Rep w' (.bare fun b=>F b∨(fr=true∧b<w.heap.size)) res v
def Blk (F:Cx) (h:List (Nat×Ob)) (g:Nat):Prop:= ∃k ob,Hget h k=some ob∧F.blk k ob=some g
structure Mem (J:Inv) (h:List (Nat×Ob)) (nx:Nat) (F:Cx) (w:World):Prop where
 flt: ∀b,F.F b→b<w.heap.size
 nx: ∀m:Nm,nx≤m.root→F.O m=none∧F.W m=none
 own:HOk w F h
 sep: ∀k k' ob ob' g,Hget h k=some ob→Hget h k'=some ob'→F.blk k ob=some g→F.blk k' ob'=some g→k=k'
 wsl: ∀k y,F.W k=some y→ ∃A n c,y= .slice A n c
 inv:J.I w F.F
def FnH (P:Program) (J:Inv) (f:FuncId) (args:List V) (h:List (Nat×Ob)) (nx:Nat) (res:V) (h':List (Nat×Ob)) (nx':Nat):Prop:=
 Bodied P f∧ ∀(w:World) (F:Cx) (vs:List Value),Mem J h nx F w→vs.length=args.length→(∀(i:Nat) (v:V) (x:Value),args[i]?=some v→vs[i]?=some x→Rep w F v x)→
  Calls P f vs.toArray w fun e w'=> ∃v G,e= .returned v∧Ev (Blk F h) w w'∧Cx.Le w F G∧(∀b,F.F b→ ¬Blk F h b→G.F b)∧Mem J h' nx' G w'∧
   (∀k ob g,Hget h' k=some ob→G.blk k ob=some g→Blk F h g∨w.heap.size≤g)∧Rep w' G res v
structure CallH where
 l:List Prop
 bw:List Bool
 pre:List (Nat×Ob)
 res:V
 post:List (Nat×Ob)
 nx:Nat
def fzA (h:List (Nat×Ob)):List V→List V×List Prop
 |[]=>([],[])
 |v::r=>((fz h v).1::(fzA h r).1,(fz h v).2++(fzA h r).2)
def mixA (h:List (Nat×Ob)):List Bool→List V→List V×List Prop
 |true::b,v::r=>((fz h v).1::(mixA h b r).1,(fz h v).2++(mixA h b r).2)
 |false::b,v::r=>(v::(mixA h b r).1,(mixA h b r).2)
 |[],r=>(r,[])
 |_,[]=>([],[])
def mixK:List Bool→List V→List Nat
 |true::b,v::r=>rts v++mixK b r
 |false::b,_::r=>mixK b r
 |_,_=>[]
structure Sig where
 J:Inv
 df:TypeId→V
 f:FuncId→List V→Option (List Prop×Bool×V)
 h:FuncId→List V→List (Nat×Ob)→Nat→Option CallH
 b:Nat:=0
def SigOk (P:Program) (G:Sig):Prop:=(∀f args l fr r,G.f f args=some (l,fr,r)→AllP l→Fn P G.J f fr args r)∧
 ∀f args h nx c,G.h f args h nx=some c→AllP c.l→FnH P G.J f (mixA h c.bw args).1 c.pre nx c.res c.post c.nx
def noH:FuncId→List V→List (Nat×Ob)→Nat→Option CallH:=fun _ _ _ _=>none
theorem SigOk.plain {P:Program} {J:Inv} {df:TypeId→V} {b:Nat} {g:FuncId→List V→Option (List Prop×Bool×V)} (h: ∀f args l fr r,g f args=some (l,fr,r)→AllP l→Fn P J f fr args r):SigOk P ⟨J,df,g,noH,b⟩:=⟨h,fun _ _ _ _ _ h=>by cases h⟩
def subH (h:List (Nat×Ob)):List (Nat×Ob)→Prop
 |[]=>True
 |(k,v)::r=>Hroot h k=some v∧subH h r
def keysH:List (Nat×Ob)→List Nat
 |[]=>[]
 |(k,_)::r=>k::keysH r
def ninL:List Nat→Nat→Prop
 |[],_=>True
 |a::r,k=>a≠k∧ninL r k
theorem ninL_ok: ∀{l:List Nat} {k:Nat},ninL l k→k∉l
 |[],_,_,h=>by simp at h
 |a::r,k,h,hm=>by
  rcases List.mem_cons.1 hm with rfl|hm
  ·exact h.1 rfl
  ·exact ninL_ok h.2 hm
def uargs (gl:Gl) (e:En):List Operand→(List V→R)→R
 |[],f=>f []
 |x::r,f=>u1 (e.ev gl x) fun v=>uargs gl e r fun vs=>f (v::vs)
def vcall (G:Sig) (h:List (Nat×Ob)) (f:FuncId) (vs:List V):Option (V×List Prop×List Nat×Bool):=
 match clL (fzA h vs).1 with
 |true=>match G.f f (fzA h vs).1 with
  |some (l,fr,r)=>match r.cl with
   |true=>some (r,(fzA h vs).2++l,vs.flatMap rts,fr||r.sc||(vs.flatMap rts).isEmpty)
   |false=>none
  |none=>none
 |false=>none
def vq (P:Program) (G:Sig) (s:S):Op→R
 | .call c=>match c.callee with
  | .value (.func f)=>uargs G.J.gl s.e c.args.toList fun vs=>match vcall G s.h f vs with
   |some (r,l,_,true)=>some (r,l)
   |_=>none
  |_=>vop P G.J.gl s.e s.h (.call c)
 |o=>vop P G.J.gl s.e s.h o
def addL (l:List Prop):Option (List Prop×S)→Option (List Prop×S)
 |some (l',s)=>some (l++l',s)
 |none=>none
def frz1 (h:List (Nat×Ob)) (ks:List Nat) (v:V):V:=
 match rts v with
 |[]=>v
 |k::r=>match (k::r).all (memN ks) with
  |true=>match (fz h v).2 with
   |[]=>(fz h v).1
   |_::_=>v
  |false=>v
def frzE (h:List (Nat×Ob)) (ks:List Nat):En→En
 |[]=>[]
 |(t,v)::r=>(t,frz1 h ks v)::frzE h ks r
def vcallF (G:Sig) (s:S) (d:Option Nat) (f:FuncId) (args:List Operand):Option (List Prop×S):=
 match uls G.J.gl s.e args with
 |some (vs,l)=>match vcall G s.h f vs with
  |some (r,l2,ks,ok)=>match ok with
   |true=>some (l++l2,{s with e:=s.e.put d r})
   |false=>if noBox s.h ks=true then some (l++l2,⟨En.put (frzE s.h ks s.e) d r,HdelK s.h ks,s.nx⟩) else none
  |none=>none
 |none=>none
def rowsH:List (Nat×Ob)→Bool
 |[]=>true
 |(_, .row _ _)::r=>rowsH r
 |(_, .box _ _)::_=>false
def seqN:Nat→List Nat→Bool
 |_,[]=>true
 |i,a::r=>a==i&&seqN (i+1) r
theorem seqN_ok: ∀{js:List Nat} {i j:Nat},seqN i js=true→i≤j→j<i+js.length→js.contains j=true
 |[],i,j,_,h1,h2=>by simp at h2;omega
 |a::r,i,j,h,h1,h2=>by
  simp only[seqN,Bool.and_eq_true] at h
  have ha:a=i:=by simpa using h.1
  simp only[List.contains_cons,Bool.or_eq_true,beq_iff_eq]
  by_cases e:j=a
  ·exact .inl e
  ·exact .inr (seqN_ok h.2 (by omega) (by simp at h2;omega))
def sameBox (post:List (Nat×Ob)) (k:Nat) (ty:TypeId) (n:Nat):Bool:=match Hroot post k with
 |some (.box ty' v)=>ty'==ty&&v.csize==n
 |_=>false
def boxJs (n:Nat) (post:List (Nat×Ob)):List (Nat×Ob)→Bool
 |[]=>true
 |(_, .row _ _)::r=>boxJs n post r
 |(k, .box ty v)::r=>decide (v.csize≤n)&&sameBox post k ty v.csize&&boxJs n post r
theorem boxJs_ok {n:Nat} {post:List (Nat×Ob)}: ∀{pre:List (Nat×Ob)} {k:Nat} {ty:TypeId} {v:V},boxJs n post pre=true→Hroot pre k=some (.box ty v)→v.csize≤n∧ ∃v',Hroot post k=some (.box ty v')∧v'.csize=v.csize
 |[],_,_,_,_,h=>by cases h
 |(k', .row ty' s)::r,k,ty,v,h,hk=>by
  simp only[Hroot] at hk
  split at hk
  ·cases hk
  ·exact boxJs_ok (pre:=r) (by simpa only[boxJs] using h) hk
 |(k', .box ty' v')::r,k,ty,v,h,hk=>by
  simp only[boxJs,Bool.and_eq_true] at h
  simp only[Hroot] at hk
  split at hk
  ·rename_i e;subst e
   obtain⟨rfl,rfl⟩:ty'=ty∧v'=v:=by simpa using hk
   refine⟨by simpa using h.1.1,?_⟩
   have h2:=h.1.2
   unfold sameBox at h2
   split at h2
   ·rename_i t2 v2 e2
    simp only[Bool.and_eq_true] at h2
    obtain rfl:t2=ty':=by simpa using h2.1
    exact⟨v2,e2,by simpa using h2.2⟩
   ·cases h2
  ·exact boxJs_ok (pre:=r) h.2 hk
def jsOk (js:Option (List Nat)) (pre post:List (Nat×Ob)):Bool:=match js with
 |none=>true
 |some l=>rowsH pre||(seqN 0 l&&boxJs l.length post pre)
def jsCo (js:Option (List Nat)) (nx:Nat) (pre post:List (Nat×Ob)):List Prop:=match js with
 |none=>[]
 |some _=>(keysH post).map fun k=>nx≤k∨(keysH pre).contains k=true
def vcallH (js:Option (List Nat)) (G:Sig) (s:S) (d:Option Nat) (f:FuncId) (args:List Operand):Option (List Prop×S):=
 match uls G.J.gl s.e args with
  |some (vs,l)=>match G.h f vs s.h s.nx with
   |some c=>if ((mixK c.bw vs).isEmpty||(c.res.sc&&scH c.post))=true∧jsOk js c.pre c.post=true then
     some (l++(mixA s.h c.bw vs).2++c.l++(subH s.h c.pre::(mixK c.bw vs).map (ninL (keysH c.pre)))++jsCo js s.nx c.pre c.post,⟨s.e.put d c.res,c.post++HdelK s.h (keysH c.pre),c.nx⟩)
     else none
   |none=>none
  |none=>none
def vgcH (G:Sig) (g:Option (Option Bool)) (s:S) (d:Option Nat) (f:FuncId) (args:List Operand):Option (Bool×List Prop×S):=
 match g with
 |some (some b)=>match uls G.J.gl s.e args with
  |some (vs,l)=>match G.h f vs s.h s.nx with
   |some c=>match c.bw with
    |[]=>if c.nx=s.nx then some (b,l++c.l++[subH s.h c.pre,c.post=c.pre],⟨s.e.put d (.gd b c.res),s.h,s.nx⟩) else none
    |_::_=>none
   |none=>none
  |none=>none
 |_=>none
section
variable {P:Program} {G:Sig} {x:Fx} {F:Cx} {w w':World} {a:Act} {s:S}
theorem Rep.bare {v:V} {y:Value} (h:Rep w F v y):v.cl=true→Rep w (.bare F.F) v y:=by
 induction h with
 |val x=>exact fun _=> .val x
 |bb b=>exact fun _=> .bb b
 |str l=>exact fun _=> .str l
 |any x=>exact fun _=> .any x
 |nn t x=>exact fun _=> .nn t x
 |ifc t v x _ ih=>exact fun hc=> .ifc t v x (ih hc)
 |gd g v x _ hu ih=>exact fun hc=> .gd g v x (fun hg=>ih hg hc) hu
 |sl s sz n c A cap b off u he hcap hA hc _ ih=>
  refine fun hcl=> .sl s sz n c A cap b off u he hcap hA hc fun i hi j hj=>ih i hi j hj ?_
  have hcl:s.cl=true:=hcl
  cases s with
  |«by» l=>
   simp only[V.elems,Option.some.injEq,Prod.mk.injEq] at he
   obtain⟨_,_,rfl⟩:=he
   rfl
  |sq sz' d l=>
   simp only[V.elems] at he
   split at he
   ·cases he
   ·simp only[Option.some.injEq,Prod.mk.injEq] at he
    obtain⟨_,rfl,rfl⟩:=he
    simp only[V.cl,clL_all] at hcl
    have h1:(l.getD i d).cl=true:=List.all_eq_true.1 hcl _ (by simp[List.getD_eq_getElem?_getD,hi])
    show((l.getD i d).cell j).cl=true
    generalize l.getD i d=v at h1
    cases v with
    |st q=>
     simp only[V.cl,clL_all] at h1
     show(q.getD j .any).cl=true
     by_cases hq:j<q.length
     ·exact List.all_eq_true.1 h1 _ (by simp[List.getD_eq_getElem?_getD,hq])
     ·rw[List.getD_eq_getElem?_getD,List.getElem?_eq_none (by omega)];rfl
    |_=>exact h1
  |_=>simp[V.elems] at he
 |pe s sz n c i j b off u he hi hb hF hc _ ih=>
  refine fun hcl=> .pe s sz n c i j b off u he hi hb hF hc fun i hi j hj=>ih i hi j hj ?_
  have hcl:s.cl=true:=hcl
  cases s with
  |«by» l=>
   simp only[V.elems,Option.some.injEq,Prod.mk.injEq] at he
   obtain⟨_,_,rfl⟩:=he
   rfl
  |sq sz' d l=>
   simp only[V.elems] at he
   split at he
   ·cases he
   ·simp only[Option.some.injEq,Prod.mk.injEq] at he
    obtain⟨_,rfl,rfl⟩:=he
    simp only[V.cl,clL_all] at hcl
    have h1:(l.getD i d).cl=true:=List.all_eq_true.1 hcl _ (by simp[List.getD_eq_getElem?_getD,hi])
    show((l.getD i d).cell j).cl=true
    generalize l.getD i d=v at h1
    cases v with
    |st q=>
     simp only[V.cl,clL_all] at h1
     show(q.getD j .any).cl=true
     by_cases hq:j<q.length
     ·exact List.all_eq_true.1 h1 _ (by simp[List.getD_eq_getElem?_getD,hq])
     ·rw[List.getD_eq_getElem?_getD,List.getElem?_eq_none (by omega)];rfl
    |_=>exact h1
  |_=>simp[V.elems] at he
 |op k j b hk=>exact fun hc=>by simp[V.cl] at hc
 |ro k x hk=>exact fun hc=>by simp[V.cl] at hc
 |vw m sz a n N cap A B hk hn=>exact fun hc=>by simp[V.cl] at hc
 |rp k sz i j g n cap hk=>exact fun hc=>by simp[V.cl] at hc
 |st l cs u hs hc _ ih=>
  refine fun hcl=> .st l cs u hs hc fun j hj=>ih j hj ?_
  simp only[V.cl,clL_all] at hcl
  exact List.all_eq_true.1 hcl _ (by simp[List.getD_eq_getElem?_getD,hj])
 |tu l cs u hs hc _ ih=>
  refine fun hcl=> .tu l cs u hs hc fun j hj=>ih j hj ?_
  simp only[V.cl,clL_all] at hcl
  exact List.all_eq_true.1 hcl _ (by simp[List.getD_eq_getElem?_getD,hj])
theorem Rep.of_bare {F0:Nat→Prop} {v:V} {y:Value} (h:Rep w (.bare F0) v y) (hF: ∀b,F.F b→F0 b∨w.heap.size≤b):Rep w F v y:=
 h.le ⟨hF,fun k b hk=>by simp[Cx.bare] at hk,fun k b hk=>by simp[Cx.bare] at hk⟩
theorem Rep.free {v:V} {y:Value} {G:Cx} (h:Rep w F v y) (hO: ∀m b,F.O m=some b→G.O m=some b) (hW: ∀m b,F.W m=some b→G.W m=some b):v.sc=true→Rep w' G v y:=by
 induction h with
 |val x=>exact fun _=> .val x
 |bb b=>exact fun _=> .bb b
 |str l=>exact fun _=> .str l
 |any x=>exact fun _=> .any x
 |nn t x=>exact fun _=> .nn t x
 |ifc t v x _ ih=>exact fun hc=> .ifc t v x (ih hc)
 |gd g v x _ hu ih=>exact fun hc=> .gd g v x (fun hg=>ih hg hc) hu
 |sl s _ _ _ _ _ _ _ _ he _ _ _ _ _=>
  intro hc
  cases s<;>simp only[V.elems,reduceCtorEq] at he<;>simp[V.sc] at hc
 |pe s _ _ _ _ _ _ _ _ he _ _ _ _ _ _=>intro hc;simp[V.sc] at hc
 |op k j b hk=>exact fun _=> .op k j b (hO _ _ hk)
 |ro k x hk=>exact fun _=> .ro k x (hW _ _ hk)
 |vw m sz a n N cap A B hk hn=>exact fun _=> .vw m sz a n N cap A B (hW _ _ hk) hn
 |rp k sz i j g n cap hk=>exact fun _=> .rp k sz i j g n cap (hW _ _ hk)
 |st l cs u hs hc _ ih=>
  refine fun hcl=> .st l cs u hs hc fun j hj=>ih j hj ?_
  simp only[V.sc,scL_all] at hcl
  exact List.all_eq_true.1 hcl _ (by simp[List.getD_eq_getElem?_getD,hj])
 |tu l cs u hs hc _ ih=>
  refine fun hcl=> .tu l cs u hs hc fun j hj=>ih j hj ?_
  simp only[V.sc,scL_all] at hcl
  exact List.all_eq_true.1 hcl _ (by simp[List.getD_eq_getElem?_getD,hj])
theorem uargs_ok {J:Inv} {e:En} {f:List V→R} {r:V} {l:List Prop} (he:EnvOk w F e a) (hi:J.I w F.F): ∀{ops:List Operand},uargs J.gl e ops f=some (r,l)→AllP l→
  ∃vs l',f vs=some (r,l')∧AllP l'∧vs.length=ops.length∧ ∀(i:Nat) (v:V) (y:Value),vs[i]?=some v→(ops.map a.eval)[i]?=some y→Rep w F v y:=by
 intro ops
 induction ops generalizing f l with
 |nil=>exact fun h hl=>⟨[],l,h,hl,rfl,fun i v y hv=>by simp at hv⟩
 |cons o ops ih=>
  intro h hl
  obtain⟨v,l1,h1,hl1,hv⟩:=u1_ok h hl (fun v hv=>he.ev hi hv)
  obtain⟨vs,l2,h2,hl2,hlen,hvs⟩:=ih h1 hl1
  refine⟨v::vs,l2,h2,hl2,by simp[hlen],fun i v' y hv' hy=> ?_⟩
  cases i with
  |zero=>
   simp only[List.getElem?_cons_zero,Option.some.injEq,List.map_cons] at hv' hy
   subst hv' hy;exact hv
  |succ i=>exact hvs i v' y (by simpa using hv') (by simpa using hy)
theorem fzA_ok (hs:Sat x s F a w) {ks:List Nat}: ∀{vs:List V} {ys:List Value},AllP (fzA s.h vs).2→(∀k,k∈vs.flatMap rts→k∈ks)→(∀(i:Nat) (v:V) (y:Value),vs[i]?=some v→ys[i]?=some y→Rep w F v y)→
  (fzA s.h vs).1.length=vs.length∧ ∀(i:Nat) (v:V) (y:Value),(fzA s.h vs).1[i]?=some v→ys[i]?=some y→Rep w (F.less s.h ks) v y
 |[],ys,_,_,_=>⟨rfl,fun i v y hv=>by simp[fzA] at hv⟩
 |v::r,ys,hl,hm,hvs=>by
  simp only[fzA] at hl⊢
  obtain⟨hl1,hl2⟩:=allP_app hl
  simp only[List.flatMap_cons,List.mem_append] at hm
  cases ys with
  |nil=>
   refine⟨?_,fun i v y _ hy=>by simp at hy⟩
   have:=(fzA_ok hs (ks:=ks) (vs:=r) (ys:=[]) hl2 (fun k hk=>hm k (.inr hk)) (fun i v y _ hy=>by simp at hy)).1
   simp[this]
  |cons y0 ys=>
   obtain⟨q1,q2⟩:=fzA_ok hs (ks:=ks) (vs:=r) (ys:=ys) hl2 (fun k hk=>hm k (.inr hk)) (fun i v y hv hy=>hvs (i+1) v y (by simpa using hv) (by simpa using hy))
   refine⟨by simp[q1],fun i u y hu hy=> ?_⟩
   cases i with
   |zero=>
    simp only[List.getElem?_cons_zero,Option.some.injEq] at hu hy
    subst hu hy
    exact fz_ok hs (hvs 0 v y0 rfl rfl) hl1 (fun k hk=>hm k (.inl hk))
   |succ i=>exact q2 i u y (by simpa using hu) (by simpa using hy)
theorem vcall_ok (hG:SigOk P G) {f:FuncId} {vs:List V} {ys:List Value} {r:V} {l:List Prop} {ks:List Nat} {ok:Bool} (h:vcall G s.h f vs=some (r,l,ks,ok)) (hl:AllP l) (hJ:x.J=G.J) (hs:Sat x s F a w) (hx:Ext w w') (hlen:vs.length=ys.length)
  (hvs: ∀(i:Nat) (v:V) (y:Value),vs[i]?=some v→ys[i]?=some y→Rep w F v y):
  Bodied P f∧Calls P f ys.toArray w' fun e w''=> ∃v,e= .returned v∧Ext w' w''∧(ok=true→Rep w'' F r v)∧Rep w'' (F.less s.h ks) r v:=by
 unfold vcall at h
 split at h
 ·rename_i hcl
  split at h
  ·rename_i l2 fr r2 hg
   split at h
   ·rename_i hrc
    simp only[Option.some.injEq,Prod.mk.injEq] at h
    obtain⟨rfl,rfl,rfl,rfl⟩:=h
    obtain⟨hl1,hl2⟩:=allP_app hl
    obtain⟨hb,hfn⟩:=hG.1 f _ _ _ _ hg hl2
    obtain⟨q1,q2⟩:=fzA_ok hs (ks:=vs.flatMap rts) hl1 (fun k hk=>hk) hvs
    have hinv:G.J.I w' (F.less s.h (vs.flatMap rts)).F:=by
     rw[←hJ]
     exact x.J.out hs.inv hx.size (fun b hb _=>hx.block b hb) fun b hb=> .inl hb.1
    refine⟨hb,(hfn w' (F.less s.h (vs.flatMap rts)).F ys hinv (fun b hb=>Nat.lt_of_lt_of_le (hs.flt b hb.1) hx.size) (by rw[q1];exact hlen.symm) (fun i v y hv hy=> ?_)).mono fun e w'' ⟨v,he,hxx,hr⟩=>⟨v,he,hxx,fun hok=> ?_,?_⟩⟩
    ·refine((q2 i v y hv hy).ext hx).bare ?_
     rw[clL_all] at hcl
     exact List.all_eq_true.1 hcl v (List.mem_of_getElem? hv)
    ·simp only[Bool.or_eq_true,List.isEmpty_iff] at hok
     rcases hok with (hfr|hsc)|hem
     ·exact hr.of_bare fun b hb=> .inl (.inr ⟨hfr,Nat.lt_of_lt_of_le (hs.flt b hb) hx.size⟩)
     ·exact hr.free (fun m b hb=>by simp[Cx.bare] at hb) (fun m b hb=>by simp[Cx.bare] at hb) hsc
     ·refine hr.of_bare fun b hb=> .inl (.inl ⟨hb,fun⟨m,ob,hm,_⟩=> ?_⟩)
      rw[hem] at hm;simp at hm
    ·exact hr.of_bare fun b hb=> .inl (.inl hb)
   ·cases h
  ·cases h
 ·cases h
theorem cvOk_all (v:V):cvOk true v=true:=by cases v<;>rfl
theorem ldq_all {gl:Gl} {o:Op} {e:En} {h0:List (Nat×Ob)} {q:V×List Prop} (h:vop P gl e h0 o=some q):ldq P gl true [] e o=true:=by
 cases o<;>first|rfl|skip
 all_goals
  simp only[vop,u1] at h
  simp only[ldq]
  split<;>rename_i hev<;>rw[hev] at h
  ·first|exact ldOk_all _ _ _|exact cvOk_all _
  ·first|exact ldOk_all _ _ _|exact cvOk_all _
  ·exact absurd h (by simp)
theorem vop_ext (hs:Sat x s F a w) {o:Oper} {r:V} {l:List Prop} (h:vop P x.J.gl s.e s.h o.op=some (r,l)) (hl:AllP l): ∃z,Rep w F r z∧ ∀w',Ext w w'→(execOp a.eval o).run P w'= .ok (.value z) w':=by
 obtain⟨z,hz,hr⟩:=vop_ok hs.own h hl (ldq_all h) hs.env hs.inv
 exact⟨z,hz,fun w' hx=>hr w' (.of_ext hs.own hx)⟩
theorem run_enter {o:Oper} {c:Call} {f:FuncId} (hop:o.op= .call c) (hcal:c.callee= .value (.func f)) (hb:Bodied P f) (w':World):(execOp a.eval o).run P w'= .ok (.enter f (c.args.map a.eval)) w':=by
 obtain⟨fn,hf,hbody,hname⟩:=hb
 simp only[execOp,hop,resolve,hcal,Act.eval,Deferred.ofValue,Sem.run_bind,Sem.run_pure,Result.andThen_ok,invoke,callFunc,run_program,hf,hname,hbody]
 simp
theorem vq_ok (hG:SigOk P G) {o:Oper} {r:V} {l:List Prop} (h:vq P G s o.op=some (r,l)) (hl:AllP l) (hJ:x.J=G.J) (hs:Sat x s F a w):
  (∃z,Rep w F r z∧ ∀w',Ext w w'→(execOp a.eval o).run P w'= .ok (.value z) w')∨
  ((∃c,o.op= .call c)∧ ∃f args,∀w',Ext w w'→(execOp a.eval o).run P w'= .ok (.enter f args) w'∧Calls P f args w' fun e w''=> ∃v,e= .returned v∧Ext w' w''∧Rep w'' F r v):=by
 unfold vq at h
 split at h
 ·rename_i c hop
  split at h
  ·rename_i f hcal
   right
   rw[←hJ] at h
   obtain⟨vs,l',h,hl,hlen,hvs⟩:=uargs_ok hs.env hs.inv h hl
   split at h
   ·rename_i r2 l2 ks hc
    obtain⟨rfl,rfl⟩:=some_pair h
    refine⟨⟨c,hop⟩,f,c.args.map a.eval,fun w' hx=> ?_⟩
    obtain⟨hb,hcalls⟩:=vcall_ok hG hc hl hJ hs hx (ys:=c.args.toList.map a.eval) (by simp[hlen]) hvs
    refine⟨run_enter hop hcal hb w',?_⟩
    have e:(c.args.toList.map a.eval).toArray=c.args.map a.eval:=by
     rw[←Array.toList_map]
    rw[e] at hcalls
    exact hcalls.mono fun e w'' ⟨v,he,hxx,hr,_⟩=>⟨v,he,hxx,hr rfl⟩
   ·cases h
  ·rename_i hne
   left
   rw[←hJ] at h
   exact vop_ext hs (by rw[hop];exact h) hl
 ·left
  rw[←hJ] at h
  exact vop_ext hs h hl
end
end Go.Proofs.YtfengpdaocgcnaaGreatDoor
