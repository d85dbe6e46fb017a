/- The conditions of a whole piece of code (vg), and that they suffice (vg_ok). -/
import Derived.Test.YtfengpdaocgcnaaGreatDoorQ13
import Derived.Scope
namespace Go.Proofs.YtfengpdaocgcnaaGreatDoor
open Go.RowKit
structure Ko where
 nrm:S→Prop
 ret:S→Prop
 ex:List (Nat×(S→Prop))
def exGet:List (Nat×(S→Prop))→Nat→Option (S→Prop)
 |[],_=>none
 |(k,v)::r,n=>if k=n then some v else exGet r n
abbrev Br (b:Bool) (X Y:Prop):Prop:=(b=true→X)∧(b=false→Y)
def subE (e:En):En→Prop
 |[]=>True
 |(k,v)::r=>e.get k=some v∧subE e r
abbrev Sub (s t:S):Prop:=subE s.e t.e∧subH s.h t.h∧s.nx≤t.nx
def lookN:List (Nat×Nat)→Nat→Option Nat
 |[],_=>none
 |(k,v)::r,n=>if k=n then some v else lookN r n
def ivN (b:Nat) (σ:List (Nat×Nat)) (k:Nat):Option Nat:=if k<b then some k else lookN σ k
def NR (iv:Nat→Option Nat):Nm→Nm→Prop
 | .r k, .r k'=>iv k'=some k
 | .c k i j, .c k' i' j'=>iv k'=some k∧i'=i∧j'=j
 |_,_=>False
mutual
def RV (iv:Nat→Option Nat):V→V→Prop
 | .ro m,u=>match u with
  | .ro m'=>NR iv m m'
  |_=>False
 | .vw m sz a n,u=>match u with
  | .vw m' sz' a' n'=>NR iv m m'∧sz'=sz∧a'=a∧n'=n
  |_=>False
 | .op k j,u=>match u with
  | .op k' j'=>iv k'=some k∧j'=j
  |_=>False
 | .rp m sz i j,u=>match u with
  | .rp m' sz' i' j'=>NR iv m m'∧sz'=sz∧i'=i∧j'=j
  |_=>False
 | .gd g v,u=>match u with
  | .gd g' v'=>g'=g∧RV iv v v'
  |_=>False
 | .st l,u=>match u with
  | .st l'=>RVL iv l l'
  |_=>False
 | .tu l,u=>match u with
  | .tu l'=>RVL iv l l'
  |_=>False
 | .val x,u=>u= .val x
 | .bb x,u=>u= .bb x
 | .str x,u=>u= .str x
 | .by x,u=>u= .by x
 | .any,u=>u= .any
 | .nn,u=>u= .nn
 | .ifc t v,u=>match u with
  | .ifc t' v'=>t'=t∧RV iv v v'
  |_=>False
 | .sq sz d l,u=>u= .sq sz d l∧clL l=true
 | .pe s i j,u=>u= .pe s i j∧s.cl=true
 | .own _ _ _,_=>False
def RVL (iv:Nat→Option Nat):List V→List V→Prop
 |[],u=>match u with
  |[]=>True
  |_=>False
 |v::r,u=>match u with
  |v'::r'=>RV iv v v'∧RVL iv r r'
  |_=>False
end
def ct1:V→Bool
 | .own _ s _=>s.cl
 |v=>v.cl
def ct2:V→Bool
 | .st cs=>cs.all ct1
 |v=>ct1 v
def V.ct:V→Bool
 | .by _=>true
 | .sq _ _ l=>l.all ct2
 |_=>false
def RO (iv:Nat→Option Nat):Ob→Ob→Prop
 | .box ty v, .box ty' v'=>ty'=ty∧RV iv v v'
 | .row ty v, .row ty' v'=>ty'=ty∧v'=v∧v.ct=true
 |_,_=>False
def subER (iv:Nat→Option Nat) (e:En):En→Prop
 |[]=>True
 |(k,u)::r=>(match e.get k with
  |some v=>RV iv v u
  |none=>False)∧subER iv e r
def subHR (iv:Nat→Option Nat) (h:List (Nat×Ob)):List (Nat×Ob)→Prop
 |[]=>True
 |(k,u)::r=>(match iv k with
  |some k0=>match Hroot h k0 with
   |some o=>RO iv o u
   |none=>False
  |none=>False)∧subHR iv h r
def newLt (n:Nat):List (Nat×Nat)→Prop
 |[]=>True
 |(k,_)::r=>k<n∧newLt n r
def notIn (v:Nat):List (Nat×Nat)→Prop
 |[]=>True
 |(_,v')::r=>v'≠v∧notIn v r
def oldNe:List (Nat×Nat)→Prop
 |[]=>True
 |(_,v)::r=>notIn v r∧oldNe r
def oldGe (b:Nat):List (Nat×Nat)→Prop
 |[]=>True
 |(_,v)::r=>b≤v∧oldGe b r
def oldOk (b:Nat) (ks:List Nat):List (Nat×Nat)→Prop
 |[]=>True
 |(_,v)::r=>(b≤v∨ninL ks v)∧oldOk b ks r
abbrev SubR (b:Nat) (σ:List (Nat×Nat)) (s t:S):Prop:=subER (ivN b σ) s.e t.e∧subHR (ivN b σ) s.h t.h∧newLt t.nx σ∧b≤t.nx∧oldOk b (keysH t.h) σ∧oldNe σ
def RenC (b:Nat) (K:S→Prop) (s:S):Prop:=K s∨ ∃σ t,SubR b σ s t∧K t
theorem RenC.skip {b:Nat} {K:S→Prop} {s:S} (h:K s):RenC b K s:= .inl h
theorem RenC.intro {b:Nat} {K:S→Prop} {s:S} (σ:List (Nat×Nat)) (t:S) (h1:SubR b σ s t) (h2:K t):RenC b K s:= .inr ⟨σ,t,h1,h2⟩
inductive Ad where
 |sl (t:Nat) (ty:TypeId) (sv:V)
 |bx (k j:Nat) (ty:TypeId) (sv:V)
 |cut (t:Nat)
 |frz (r i j m:Nat)
 |fzs (k:Nat)
 |nl (t sz:Nat) (d:V)
def noEl (sv:V):Bool:=match sv with
 | .by []=>true
 | .sq sz _ []=> !(decide (sz=0))
 |_=>false
def adopt (s:S):Ad→Option S
 | .sl t ty sv=>match s.e.get t with
  |some (.val x)=>if isNil x=true∧noEl sv=true then some ⟨(t, .ro (.r s.nx))::s.e,(s.nx, .row ty sv)::s.h,s.nx+1⟩ else none
  |_=>none
 | .bx k j ty sv=>match Hroot s.h k with
  |some (.box bt b)=>if j<b.csize then match b.cell j with
   | .val x=>match b.setB j (.ro (.r s.nx)) with
    |some b'=>if isNil x=true∧noEl sv=true then some ⟨s.e,(k, .box bt b')::(s.nx, .row ty sv)::s.h,s.nx+1⟩ else none
    |none=>none
   |_=>none
   else none
  |_=>none
 | .cut t=>match s.e.get t with
  |some (.vw (.r k) sz 0 n)=>match Hroot s.h k with
   |some (.row ty c)=>match c.elems,c.cut 0 n with
    |some (sz',N,_),some c'=>if sz'=sz∧n<N∧c.cl=true then some ⟨(t, .ro (.r s.nx))::s.e,(s.nx, .row ty c')::HdelK s.h [k],s.nx+1⟩ else none
    |_,_=>none
   |_=>none
  |_=>none
 | .fzs k=>some ⟨frzE s.h [k] s.e,HdelK s.h [k],s.nx⟩
 | .nl t sz d=>match s.e.get t with
  |some (.val x)=>if isNil x=true∧ ¬sz=0 then some ⟨(t, .sq sz d [])::s.e,s.h,s.nx⟩ else none
  |_=>none
 | .frz r i j m=>match Hroot s.h r with
  |some (.row ty0 c0)=>match c0.elems with
   |some (sz,n,cc)=>if i<n∧j<sz∧ ¬r=m then match (cc i).cell j with
    | .ro (.r m')=>if m'=m then match Hroot s.h m with
     |some (.row _ (.by l))=>match c0.setE i j (.by l) with
      |some (_,c0')=>some ⟨s.e,(r, .row ty0 c0')::HdelK s.h [m],s.nx⟩
      |none=>none
     |_=>none
     else none
    |_=>none
    else none
   |none=>none
  |_=>none
def AdSub:List Ad→S→S→Prop
 |[],s,u=>Sub s u
 |d::r,s,u=>match adopt s d with
  |some s1=>AdSub r s1 u
  |none=>False
def Subs (b:Nat) (s t:S):Prop:=Sub s t∨(∃σ,SubR b σ s t)∨ ∃ad,AdSub ad s t
def LoopP (b:Nat) (f:S→Ko→Prop) (s:S) (K:Ko):Prop:=
 ∃(α:Type) (J:α→Prop) (I:α→S) (m:α→Nat) (x0:α) (ad:List Ad),J x0∧AdSub ad s (I x0)∧ ∀y,J y→f (I y) {K with nrm:=fun s'=> ∃y',J y'∧m y'<m y∧Subs b s' (I y')}
def vg (P:Program) (G:Sig):Code→S→Ko→Prop
 | .skip,s,K=>K.nrm s
 | .label _,s,K=>K.nrm s
 | .seq a b,s,K=>vg P G a s {K with nrm:=fun s'=>vg P G b s' K}
 | .region _ ops q,s,K=>match q&&effL ops.toList with
  |true=>DrawC P G ops.toList K.nrm s
  |false=>vops P G q ops.toList K.nrm ops.toList s
 | .cond c x y,s,K=>match (s.e.ev G.J.gl c).bind vbool with
  |some b=>Br b (vg P G x s K) (vg P G y s K)
  |none=>False
 | .block id c,s,K=>vg P G c s {K with ex:=(id,K.nrm)::K.ex}
 | .exit id,s,K=>match exGet K.ex id with
  |some k=>k s
  |none=>False
 | .ret,s,K=>K.ret s
 | .loop c,s,K=>LoopP G.b (vg P G c) s K
 | .scope c,s,K=>vg P G c s K
 |_,_,_=>False
def Kseq (P:Program) (G:Sig) (b:Code) (K:Ko):S→Prop:=fun s=>vg P G b s K
def LoopC (P:Program) (G:Sig) (c:Code) (s:S) (K:Ko):Prop:=LoopP G.b (vg P G c) s K
def Again {α:Type} (b:Nat) (J:α→Prop) (I:α→S) (m:α→Nat) (y:α):S→Prop:=fun s=> ∃y',J y'∧m y'<m y∧Subs b s (I y')
theorem Again.intro {α:Type} {b:Nat} {J:α→Prop} {I:α→S} {m:α→Nat} {y:α} {s:S} (y':α) (h1:J y') (h2:m y'<m y) (h3:Sub s (I y')):Again b J I m y s:=⟨y',h1,h2, .inl h3⟩
theorem Again.introR {α:Type} {b:Nat} {J:α→Prop} {I:α→S} {m:α→Nat} {y:α} {s:S} (y':α) (σ:List (Nat×Nat)) (h1:J y') (h2:m y'<m y) (h3:SubR b σ s (I y')):Again b J I m y s:=⟨y',h1,h2, .inr (.inl ⟨σ,h3⟩)⟩
theorem Again.introA {α:Type} {b:Nat} {J:α→Prop} {I:α→S} {m:α→Nat} {y:α} {s:S} (y':α) (ad:List Ad) (h1:J y') (h2:m y'<m y) (h3:AdSub ad s (I y')):Again b J I m y s:=⟨y',h1,h2, .inr (.inr ⟨ad,h3⟩)⟩
theorem LoopC.intro {P:Program} {G:Sig} {c:Code} {s:S} {K:Ko} {α:Type} (J:α→Prop) (I:α→S) (m:α→Nat) (x0:α) (h0:J x0) (h1:Sub s (I x0))
  (h2: ∀y,J y→vg P G c (I y) ⟨Again G.b J I m y,K.ret,K.ex⟩):LoopC P G c s K:=⟨α,J,I,m,x0,[],h0,h1,h2⟩
theorem LoopC.introA {P:Program} {G:Sig} {c:Code} {s:S} {K:Ko} {α:Type} (J:α→Prop) (I:α→S) (m:α→Nat) (x0:α) (ad:List Ad) (h0:J x0) (h1:AdSub ad s (I x0))
  (h2: ∀y,J y→vg P G c (I y) ⟨Again G.b J I m y,K.ret,K.ex⟩):LoopC P G c s K:=⟨α,J,I,m,x0,ad,h0,h1,h2⟩
section
variable (P:Program) (G:Sig) (s:S) (K:Ko)
theorem Kseq_app (b:Code):Kseq P G b K s=vg P G b s K:=rfl
theorem vg_skip:vg P G .skip s K=K.nrm s:=rfl
theorem vg_scope (c:Code):vg P G (.scope c) s K=vg P G c s K:=rfl
theorem vg_label (l:Nat):vg P G (.label l) s K=K.nrm s:=rfl
theorem vg_seq (a b:Code):vg P G (.seq a b) s K=vg P G a s ⟨Kseq P G b K,K.ret,K.ex⟩:=rfl
theorem vg_region (i:Nat) (ops:Array Oper) (q:Bool):vg P G (.region i ops q) s K=match q&&effL ops.toList with
  |true=>DrawC P G ops.toList K.nrm s
  |false=>vops P G q ops.toList K.nrm ops.toList s:=rfl
theorem vg_cond (c:Operand) (a b:Code) {t:Bool} (h:(s.e.ev G.J.gl c).bind vbool=some t):vg P G (.cond c a b) s K=Br t (vg P G a s K) (vg P G b s K):=by simp only[vg,h]
theorem vg_block (i:Nat) (c:Code):vg P G (.block i c) s K=vg P G c s ⟨K.nrm,K.ret,(i,K.nrm)::K.ex⟩:=rfl
theorem vg_exit (i:Nat) {k:S→Prop} (h:exGet K.ex i=some k):vg P G (.exit i) s K=k s:=by simp only[vg,h]
theorem vg_ret:vg P G .ret s K=K.ret s:=rfl
theorem vg_loop (c:Code):vg P G (.loop c) s K=LoopC P G c s K:=rfl
end
def okC (n:Nat):Code→Bool
 | .region _ ops q=>(ops.toList.all fun o=>match o.dst with|some d=>decide (d<n)|none=>true)&&(!q||effL ops.toList||Region.lexB .any ops)
 | .seq a b=>okC n a&&okC n b
 | .cond _ a b=>okC n a&&okC n b
 | .block _ c=>okC n c
 | .loop c=>okC n c
 | .scope c=>okC n c
 |_=>true
section
variable {P:Program} {G:Sig} {x:Fx} {w w':World} {a:Act} {s:S}
structure KOk (x:Fx) (K:Ko) (Q:Exit→Act→World→Prop):Prop where
 nrm: ∀s F a w,K.nrm s→Sat x s F a w→Q .normal a w
 ret: ∀s F a w,K.ret s→Sat x s F a w→Q .ret a w
 ex: ∀id k,exGet K.ex id=some k→ ∀s F a w,k s→Sat x s F a w→Q (.exit id) a w
theorem subE_get {e t:En} (h:subE e t): ∀k v,t.get k=some v→e.get k=some v:=by
 induction t with
 |nil=>intro k v hk;simp[En.get] at hk
 |cons p r ih=>
  obtain⟨k',v'⟩:=p
  intro k v hk
  simp only[En.get] at hk
  split at hk
  ·rename_i he;subst he;simp only[Option.some.injEq] at hk;subst hk;exact h.1
  ·exact ih h.2 k v hk
theorem Sat.sub {F:Cx} {t:S} (h:Sat x s F a w) (hst:Sub s t):Sat x t F a w where
 ev:=h.ev
 env:=fun k v hk=>h.env k v (subE_get hst.1 k v hk)
 df:=h.df
 sz:=h.sz
 fold:=h.fold
 flt:=h.flt
 nx:=fun k hk=>h.nx k (Nat.le_trans hst.2.2 hk)
 own:=fun k ob hk=>h.own k ob (subH_get hst.2.1 k ob hk)
 own2:=fun k ob g hk=>h.own2 k ob g (subH_get hst.2.1 k _ hk)
 own3:=fun k ob g hk=>h.own3 k ob g (subH_get hst.2.1 k _ hk)
 sep:=fun k k' ob ob' g hk hk'=>h.sep k k' ob ob' g (subH_get hst.2.1 k _ hk) (subH_get hst.2.1 k' _ hk')
 wsl:=h.wsl
 le:=h.le
 inv:=h.inv
theorem put_same (a:Act) {t:Nat} {y:Value} (hy:a.tmps.getD t undef=y) (ht:t<a.tmps.size):a.put (some t) y=a:=by
 simp only[Act.put]
 congr 1
 apply Array.ext
 ·simp
 ·intro i h1 h2
  by_cases he:t=i
  ·subst he
   rw[Array.getElem_setIfInBounds_self,←hy]
   simp[Array.getD,ht]
  ·rw[Array.getElem_setIfInBounds_ne _ he]
theorem noEl_ok {sv:V} (h:noEl sv=true): ∃sz c,sv.elems=some (sz,0,c):=by
 unfold noEl at h
 split at h
 ·exact⟨1,_,rfl⟩
 ·rename_i sz d
  have hz: ¬sz=0:=by simpa using h
  exact⟨sz,fun i=>([]:List V).getD i d,by simp only[V.elems,if_neg hz,List.length_nil]⟩
 ·cases h
theorem Sat.nil {F:Cx} {ty:TypeId} {sv:V} {sz:Nat} {c:Nat→V} (hs:Sat x s F a w) (he:sv.elems=some (sz,0,c)):
  ∃G,Sat x ⟨s.e,(s.nx, .row ty sv)::s.h,s.nx+1⟩ G a w∧G.W (.r s.nx)=some (.slice none 0 0)∧Cx.Le w F G∧G.F=F.F:=by
 let G:Cx:=⟨F.F,F.O,fun m=>match m with
  | .r k=>if k=s.nx then some (.slice none 0 0) else F.W (.r k)
  |m=>F.W m⟩
 have hGW: ∀m:Nm,m.root≠s.nx→G.W m=F.W m:=fun m hm=>by
  cases m<;>simp only[Nm.root] at hm<;>simp[G,hm]
 have hl:Cx.Le w F G:=⟨fun b hb=> .inl hb,fun k b hk=>hk,fun m y hk=>by
   have:m.root≠s.nx:=fun e=>by rw[(hs.nx m (by omega)).2] at hk;cases hk
   rw[hGW m this];exact hk⟩
 have hnm: ∀m o,Hget [(s.nx, .row ty sv)] m=some o→m= .r s.nx∧o= .row ty sv:=fun m o hm=>by
  cases m with
  |r q=>
   have:=Hget_one hm
   simp only[Nm.root] at this
   subst this
   simp only[Hget,Hroot,if_true,Option.some.injEq] at hm
   exact⟨rfl,hm.symm⟩
  |c q i j=>
   obtain⟨_,s0,sz0,n0,c0,_,_,_,hr,he0,hi,_⟩:=Hget_c hm
   simp only[Hroot] at hr
   split at hr
   ·simp only[Option.some.injEq,Ob.row.injEq] at hr
    obtain⟨rfl,rfl⟩:=hr
    rw[he] at he0
    obtain⟨_,rfl,_⟩:sz=sz0∧0=n0∧c=c0:=by simpa using he0
    omega
   ·cases hr
 refine⟨G,?_,by simp[G],hl,rfl⟩
 exact hs.new (d:=none) (v:= .any) (y:=undef) (h1:=s.h) (fun k o h=>h) (.of_ext (Ext.refl w)) hs.ev hl (fun b hb=>hb) (fun k hk=>rfl) hGW hs.flt (fun k o g hk hg=>rfl)
  (fun m o hm=>by
   obtain⟨rfl,rfl⟩:=hnm m o hm
   exact⟨.slice none 0 0,sz,0,c,fun _ _=>undef,[],by simp[G],he,World.ownsRow_nil w 0 ty sz,fun i hi=>by omega,fun i hi=>by omega,fun y hy=>by simp at hy,fun g hg=>by simp[Value.ownBlock] at hg⟩)
  (fun m o g hm hg=>by
   obtain⟨rfl,rfl⟩:=hnm m o hm
   simp[Cx.blk,G,Value.ownBlock] at hg)
  (fun m m' o o' g hm hm' _ _=>(hnm m o hm).1.trans (hnm m' o' hm').1.symm)
  (fun m y hm hy=>by
   cases m with
   |r q=>
    simp only[Nm.root] at hm
    subst hm
    simp only[G,if_true,Option.some.injEq] at hy
    exact⟨_,_,_,hy.symm⟩
   |c q i j=>
    rw[show G.W (.c q i j)=F.W (.c q i j) from rfl] at hy
    exact hs.wsl _ y hy) (fun k hk=>by cases hk) (.any _)
theorem cl_mem: ∀{l:List V},clL l=true→ ∀v∈l,v.cl=true
 |[],_,v,hv=>by cases hv
 |u::r,h,v,hv=>by
  simp only[clL,Bool.and_eq_true] at h
  rcases List.mem_cons.1 hv with rfl|hv
  ·exact h.1
  ·exact cl_mem h.2 v hv
theorem cl_get {l:List V} (h:clL l=true) {i:Nat} (hi:i<l.length) (d:V):(l.getD i d).cl=true:=by
 rw[List.getD_eq_getElem?_getD,List.getElem?_eq_getElem hi]
 exact cl_mem h _ (List.getElem_mem hi)
theorem cl_elem {c:V} {sz N:Nat} {cc:Nat→V} (h:c.cl=true) (he:c.elems=some (sz,N,cc)) {i:Nat} (hi:i<N):(cc i).cl=true:=by
 unfold V.elems at he
 split at he
 ·obtain⟨rfl,rfl,rfl⟩:1=sz∧_=N∧_=cc:=by simpa using he
  rfl
 ·split at he
  ·cases he
  ·obtain⟨rfl,rfl,rfl⟩:_=sz∧_=N∧_=cc:=by simpa using he
   exact cl_get h hi _
 ·cases he
def V.nown:V→Bool
 | .own _ _ _=>false
 |_=>true
theorem cl_nown {v:V} (h:v.cl=true) (j:Nat):(v.cell j).nown=true:=by
 unfold V.cell
 split
 ·rename_i l
  rcases Nat.lt_or_ge j l.length with hj|hj
  ·have:=cl_get h hj .any
   generalize l.getD j .any=u at this⊢
   cases u<;>first|rfl|cases this
  ·rw[List.getD_eq_getElem?_getD,List.getElem?_eq_none hj];rfl
 ·cases v<;>first|rfl|cases h
theorem refV_no {m:Nm} {i j:Nat} {v:V} (h: ∀ty t q,v≠ .own ty t q):refV m i j v=v:=by
 unfold refV
 split
 ·exact absurd rfl (h _ _ _)
 ·rfl
theorem adopt_ok {F:Cx} {d:Ad} {s1:S} (hs:Sat x s F a w) (h:adopt s d=some s1): ∃G,Sat x s1 G a w:=by
 cases d with
 |sl t ty sv=>
  simp only[adopt] at h
  split at h
  ·rename_i y ht
   split at h
   ·rename_i hc
    obtain⟨sz,c,he⟩:=noEl_ok hc.2
    simp only[Option.some.injEq] at h
    subst h
    obtain⟨G,hG,hW,_,_⟩:=hs.nil (ty:=ty) he
    obtain⟨h1,h2⟩:=hs.env t _ ht
    have h3:=rep_val h2
    rw[isNil_ok hc.1] at h3
    have hp:=hG.put (d:=some t) (v:= .ro (.r s.nx)) (y:= .slice none 0 0) (fun k hk=>by cases hk;rw[←hs.sz];exact h1) (.ro _ _ hW)
    rw[put_same a h3 h1] at hp
    exact⟨G,hp⟩
   ·cases h
  ·cases h
 |bx k j ty sv=>
  simp only[adopt] at h
  split at h
  ·rename_i bt b hk
   split at h
   ·rename_i hj
    split at h
    ·rename_i y hcell
     split at h
     ·rename_i b' hb'
      split at h
      ·rename_i hc
       obtain⟨sz,c,he⟩:=noEl_ok hc.2
       simp only[Option.some.injEq] at h
       subst h
       obtain⟨G,hG,hW,_,_⟩:=hs.nil (ty:=ty) he
       have hne:s.nx≠k:=fun e=>by have:=key_lt hs (k:= .r k) hk;simp only[Nm.root] at this;omega
       have hk':Hget ((s.nx, .row ty sv)::s.h) (.r k)=some (.box bt b):=by simp only[Hget,Hroot];rw[if_neg hne];exact hk
       obtain⟨g,cs,u,q1,q2,q3,q4,q5,q6⟩:=hG.own _ _ hk'
       obtain⟨e1,e2,e3⟩:=setB_ok hb' rfl
       have hcz:(V.ro (.r s.nx)).csize=1:=rfl
       rw[hcz] at e1 e3
       refine⟨G,hG.upd (k:= .r k) hk' (g:=g) q1 (Ev.refl _ w) fun m o' hm=> ?_⟩
       rw[Hget_cons] at hm
       split at hm
       ·obtain⟨rfl,rfl⟩:=Hget_box hm
        refine .inl ⟨rfl,q1,g,cs,u,q1,q2,by rw[e2];exact q3,fun i hi=>q4 i (by rw[e2] at hi;exact hi),fun i hi=> ?_,q6⟩
        rw[e2] at hi
        rw[e3 i hi]
        split
        ·rename_i hij
         obtain rfl:i=j:=by omega
         have:=q5 i hi
         rw[hcell] at this
         rw[rep_val this,isNil_ok hc.1]
         exact .ro _ _ hW
        ·exact q5 i hi
       ·rename_i hroot
        exact .inr ⟨fun e=>hroot (by rw[e];rfl),o',hm,rfl,fun _ h=>h⟩
      ·cases h
     ·cases h
    ·cases h
   ·cases h
  ·cases h
 |cut t=>
  simp only[adopt] at h
  split at h
  ·rename_i k sz n ht
   split at h
   ·rename_i ty c hk
    split at h
    ·rename_i sz' N cc0 c' he hcut
     split at h
     ·rename_i hc
      obtain⟨rfl,hnN,hcl⟩:=hc
      simp only[Option.some.injEq] at h
      subst h
      obtain⟨h1,h2⟩:=hs.env t _ ht
      obtain⟨x',sz1,n1,cc,u,xs,q1,q2,q3,q4,q5,q6,q7⟩:=hs.own (.r k) (.row ty c) hk
      rw[he] at q2
      obtain⟨rfl,rfl,rfl⟩:sz'=sz1∧N=n1∧cc0=cc:=by simpa using q2
      obtain⟨hxl,hx0|⟨g,cap,cur,rfl,hg0,hblk,hcap,hmax,hcur,htake⟩⟩:=q3
      ·omega
      ·have hslot:a.tmps.getD t undef= .slice (some ⟨g,0,none⟩) n cap:=by
        generalize a.tmps.getD t undef=y at h2
        cases h2 with
        |vw _ _ _ _ N0 cap0 A B hW hn=>
         rw[q1] at hW
         simp only[Option.some.injEq,Value.slice.injEq] at hW
         obtain⟨rfl,rfl,rfl⟩:=hW
         have hB:=hn.2 (by omega)
         rw[hB]
         simp[Addr.add]
        |sl _ _ _ _ _ _ _ _ _ he=>simp[V.elems] at he
       obtain⟨cc2,he2,hcc⟩:=cut_elems hcut he (Nat.zero_le _) (by omega)
       have hsz:=elems_pos he
       have hle:n*sz'≤N*sz':=Nat.mul_le_mul_right _ (by omega)
       have hnown: ∀i,i<n→ ∀j,∀ty t q,(cc0 i).cell j≠ .own ty t q:=fun i hi j ty t q e=>by
        have h1:=cl_nown (cl_elem hcl he (show i<N by omega)) j
        rw[e] at h1
        cases h1
       have hxs: ∀i,i<n→ ∀j,j<sz'→i*sz'+j<n*sz':=fun i hi j hj=>by
        have:(i+1)*sz'≤n*sz':=Nat.mul_le_mul_right _ (by omega)
        rw[Nat.succ_mul] at this;omega
       obtain⟨G,hG,_⟩:=row_new (w':=w) (ks:=[k]) (el:=ty) (sz:=sz') (N:=n) (v':= .slice (some ⟨g,0,none⟩) n cap) (XS:=xs.take (n*sz')) (c:=c') (cc:=cc2) (u:=u) (τ:=fun _ _=>none) (B:=some g) (d:=some t) hs
        (fun q hq=>by cases hq;rw[←hs.sz];exact h1)
        ⟨by simp;omega, .inr ⟨g,cap,cur,rfl,hg0,hblk,by omega,hmax,hcur,by rw[←htake,List.take_take];congr 1;omega⟩⟩
        (by rw[he2];rfl) ⟨rfl,rfl,rfl,Nat.le_refl _,fun _ _ _=>rfl⟩
        (by simp only[noBox,hk];rfl)
        (fun b hb=>by cases hb;exact⟨.r k,_,hk,by simp[Nm.root],by simp[Cx.blk,q1,Value.ownBlock],fun _ _ _ h=>by cases h⟩)
        (.inl rfl)
        (fun i hi j hj=>by rw[List.getElem?_take,if_pos (hxs i hi j hj)];exact q4 i (by omega) j hj)
        (fun y hy=>q6 y (List.mem_of_mem_take hy))
        (fun i hi j hj hno=>by
         have:=q5 i (by omega) j hj
         rw[hcc i (by omega),Nat.zero_add] at hno⊢
         rw[refV_no hno] at this
         exact this)
        (fun i hi j hj ty t q e=>by
         rw[hcc i (by omega),Nat.zero_add] at e
         exact absurd e (hnown i hi j ty t q))
        (fun _ _ _ _ _ h=>by cases h)
       rw[put_same a hslot h1] at hG
       exact⟨G,hG⟩
     ·cases h
    ·cases h
   ·cases h
  ·cases h
 |fzs k=>
  simp only[adopt,Option.some.injEq] at h
  subst h
  exact⟨_,hs.lessF [k]⟩
 |nl t sz d=>
  simp only[adopt] at h
  split at h
  ·rename_i y ht
   split at h
   ·rename_i hc
    simp only[Option.some.injEq] at h
    subst h
    obtain⟨h1,h2⟩:=hs.env t _ ht
    have hy:=rep_val h2
    rw[isNil_ok hc.1] at hy
    have hr:Rep w F (.sq sz d []) (a.tmps.getD t undef):=by rw[hy];exact rep_empty sz d hc.2
    have hq:=hs.put (d:=some t) (fun k hk=>by cases hk;rw[←hs.sz];exact h1) hr
    rw[put_same a rfl h1] at hq
    exact⟨F,hq⟩
   ·cases h
  ·cases h
 |frz r i j m=>
  simp only[adopt] at h
  split at h
  ·rename_i ty0 c0 hk
   split at h
   ·rename_i sz n cc he
    split at h
    ·rename_i hc
     obtain⟨hi,hj,hrm⟩:=hc
     split at h
     ·rename_i m' hcell
      split at h
      ·rename_i hm
       subst hm
       split at h
       ·rename_i ty l hkm
        split at h
        ·rename_i ps c0' hset
         simp only[Option.some.injEq] at h
         subst h
         have hs1:=hs.less [m']
         have hk':Hget (HdelK s.h [m']) (.r r)=some (.row ty0 c0):=Hget_delK_of (m:= .r r) hk (by simpa [Nm.root] using hrm)
         obtain⟨y,sz1,n1,cc1,u,xs,q1,q2,q3,q4,q5,q6,q7⟩:=hs1.own _ _ hk'
         rw[he] at q2
         obtain⟨rfl,rfl,rfl⟩:sz=sz1∧n=n1∧cc=cc1:=by simpa using q2
         obtain⟨A,cap,rfl,hcap,hA⟩:=row_val q3
         obtain⟨g,rfl⟩:=hA (by omega)
         have hps:AllP ps:=by
          unfold V.setE at hset
          split at hset
          ·simp at hset
          ·split at hset
           ·split at hset
            ·simp only[Option.some.injEq,Prod.mk.injEq] at hset
             obtain⟨rfl,_⟩:=hset
             exact fun p hp=>by cases hp
            ·cases hset
           ·cases hset
          ·cases hset
         obtain⟨c',e1,e2,e3,e4⟩:=setE_ok hset hps he hi rfl
         have hcz:(V.by l).csize=1:=rfl
         rw[hcz] at e2 e3
         have hW:(F.less s.h [m']).W (.r m')=some (u i j):=by
          have:=q5 i hi j hj
          rw[hcell] at this
          exact rep_ro this
         have hby:Rep w (F.less s.h [m']) (.by l) (u i j):=lent_row hs (m:= .r m') (c:= .by l) hkm (by simp[Nm.root]) hW
         refine⟨_,hs1.upd (k:= .r r) hk' (g:=g) (by simp[Cx.blk,q1,Value.ownBlock]) (Ev.refl _ w) (h':=(r, .row ty0 c0')::HdelK s.h [m']) fun m2 o' hm2=> ?_⟩
         rw[Hget_cons] at hm2
         split at hm2
         ·rename_i hroot
          cases m2 with
          |r k2=>
           simp only[Nm.root] at hroot
           subst hroot
           simp only[Hget,Hroot,if_true,Option.some.injEq] at hm2
           subst hm2
           refine .inl ⟨rfl,by simp[Cx.blk,q1,Value.ownBlock],_,_,_,c',u,xs,q1,e1,q3,q4,fun i2 hi2 j2 hj2=> ?_,q6,q7⟩
           by_cases hij:i2=i
           ·subst hij
            rw[e3 j2 hj2]
            split
            ·rename_i hjj
             obtain rfl:j2=j:=by omega
             rw[Nat.sub_self]
             exact hby
            ·exact q5 i2 hi2 j2 hj2
           ·rw[e4 i2 hij]
            exact q5 i2 hi2 j2 hj2
          |c k2 i2 j2=>
           simp only[Nm.root] at hroot
           subst hroot
           obtain⟨ty1,s1,sz2,n2,cc2,ty2,t2,qq,hr2,he2,hi2,hj2,hcell2,rfl⟩:=Hget_c hm2
           simp only[Hroot,if_true,Option.some.injEq,Ob.row.injEq] at hr2
           obtain⟨rfl,rfl⟩:=hr2
           rw[e1] at he2
           obtain⟨rfl,rfl,rfl⟩:sz=sz2∧n=n2∧c'=cc2:=by simpa using he2
           have hold:(cc i2).cell j2= .own ty2 t2 qq:=by
            by_cases hij:i2=i
            ·subst hij
             rw[e3 j2 hj2] at hcell2
             split at hcell2
             ·rename_i hjj
              obtain rfl:j2=j:=by omega
              rw[Nat.sub_self] at hcell2
              cases hcell2
             ·exact hcell2
            ·rw[e4 i2 hij] at hcell2;exact hcell2
           refine .inr ⟨(fun e=>by cases e), .row ty2 t2,?_,rfl,fun _ h=>h⟩
           simp only[Hget] at hk'⊢
           simp only[Hchild,hk',he,if_pos (And.intro hi2 hj2),hold]
         ·rename_i hroot
          exact .inr ⟨fun e=>hroot (by rw[e];rfl),o',hm2,rfl,fun _ h=>h⟩
        ·cases h
       ·cases h
      ·cases h
     ·cases h
    ·cases h
   ·cases h
  ·cases h
theorem Sat.adsub: ∀{ad:List Ad} {s t:S} {F:Cx},Sat x s F a w→AdSub ad s t→ ∃G,Sat x t G a w:=by
 intro ad
 induction ad with
 |nil=>exact fun hs h=>⟨_,hs.sub h⟩
 |cons d r ih=>
  intro s t F hs h
  simp only[AdSub] at h
  split at h
  ·rename_i s1 hd
   obtain⟨G,hG⟩:=adopt_ok hs hd
   exact ih hG h
  ·exact h.elim
theorem RVL_get {iv:Nat→Option Nat}: ∀{l l':List V},RVL iv l l'→l'.length=l.length∧ ∀j,j<l.length→RV iv (l.getD j .any) (l'.getD j .any)
 |[],l',h=>by
  unfold RVL at h
  split at h
  ·exact⟨rfl,fun j hj=>by simp at hj⟩
  ·exact h.elim
 |v::r,l',h=>by
  unfold RVL at h
  split at h
  ·rename_i v' r'
   obtain⟨q1,q2⟩:=RVL_get h.2
   refine⟨by simp[q1],fun j hj=> ?_⟩
   cases j with
   |zero=>simpa using h.1
   |succ j=>simpa using q2 j (by simpa using hj)
  ·exact h.elim
def Nm.mv (k:Nat):Nm→Nm
 | .r _=> .r k
 | .c _ i j=> .c k i j
theorem NR_mv {iv:Nat→Option Nat} {m m':Nm} (h:NR iv m m'):iv m'.root=some m.root∧m'.mv m.root=m:=by
 cases m<;>cases m'<;>simp only[NR] at h
 ·exact⟨h,rfl⟩
 ·obtain⟨h,rfl,rfl⟩:=h
  exact⟨h,rfl⟩
theorem Rep.cl_any {F G:Cx} {v:V} {y:Value} (h:Rep w F v y) (hc:v.cl=true) (hF: ∀b,G.F b→F.F b):Rep w G v y:=(h.bare hc).of_bare fun b hb=> .inl (hF b hb)
theorem Rep.ren {F G:Cx} {iv:Nat→Option Nat} {v:V} {y:Value} (h:Rep w F v y) (hF: ∀b,G.F b→F.F b) (hO: ∀m' m,NR iv m m'→G.O m'=F.O m) (hW: ∀m' m,NR iv m m'→G.W m'=F.W m): ∀u,RV iv v u→Rep w G u y:=by
 induction h with
 |val x=>intro u hu;rw[show u=_ from hu];exact .val _
 |bb x=>intro u hu;rw[show u=_ from hu];exact .bb _
 |str x=>intro u hu;rw[show u=_ from hu];exact .str _
 |any x=>intro u hu;rw[show u=_ from hu];exact .any _
 |nn t x=>intro u hu;rw[show u=_ from hu];exact .nn _ _
 |ifc t v x _ ih=>
  intro u hr
  unfold RV at hr
  split at hr
  ·obtain⟨rfl,hr⟩:=hr
   exact .ifc _ _ _ (ih _ hr)
  ·exact hr.elim
 |gd g v x _ hu ih=>
  intro u hr
  unfold RV at hr
  split at hr
  ·obtain⟨rfl,hr⟩:=hr
   exact .gd _ _ _ (fun hg=>ih hg _ hr) hu
  ·exact hr.elim
 |sl s sz n c A cap b off u he hcap hA hc hrep ih=>
  intro v hr
  have h0:Rep w F s (.slice A n cap):= .sl s sz n c A cap b off u he hcap hA hc hrep
  cases s with
  |«by» l=>rw[show v=_ from hr];exact h0.cl_any rfl hF
  |sq sz d l=>
   have hr':v= .sq sz d l∧clL l=true:=hr
   rw[hr'.1]
   exact h0.cl_any hr'.2 hF
  |_=>simp[V.elems] at he
 |pe s sz n c i j b off u he hi hb hn hc hrep ih=>
  intro v hr
  have h0:Rep w F (.pe s i j) (.pointer (some ⟨b,off+(i*sz+j),none⟩)):= .pe s sz n c i j b off u he hi hb hn hc hrep
  have hr':v= .pe s i j∧s.cl=true:=hr
  rw[hr'.1]
  exact h0.cl_any hr'.2 hF
 |op k j b hk=>
  intro u hr
  unfold RV at hr
  split at hr
  ·obtain⟨h1,rfl⟩:=hr
   exact .op _ _ b ((hO (.r _) (.r k) (show NR iv (.r k) (.r _) from h1)).trans hk)
  ·exact hr.elim
 |ro k x hk=>
  intro u hr
  unfold RV at hr
  split at hr
  ·exact .ro _ _ (by rw[hW _ _ hr];exact hk)
  ·exact hr.elim
 |vw m sz a n N cap A B hk hn=>
  intro u hr
  unfold RV at hr
  split at hr
  ·obtain⟨h1,rfl,rfl,rfl⟩:=hr
   exact .vw _ _ _ _ N cap A B (by rw[hW _ _ h1];exact hk) hn
  ·exact hr.elim
 |rp k sz i j g n cap hk=>
  intro u hr
  unfold RV at hr
  split at hr
  ·obtain⟨h1,rfl,rfl,rfl⟩:=hr
   exact .rp _ _ _ _ g n cap (by rw[hW _ _ h1];exact hk)
  ·exact hr.elim
 |st l cs u hs hc _ ih=>
  intro v' hr
  unfold RV at hr
  split at hr
  ·rename_i l'
   obtain⟨q1,q2⟩:=RVL_get hr
   exact .st l' cs u (by rw[q1];exact hs) (fun j hj=>hc j (by rw[←q1];exact hj)) fun j hj=>by rw[q1] at hj;exact ih j hj _ (q2 j hj)
  ·exact hr.elim
 |tu l cs u hs hc _ ih=>
  intro v' hr
  unfold RV at hr
  split at hr
  ·rename_i l'
   obtain⟨q1,q2⟩:=RVL_get hr
   exact .tu l' cs u (by rw[q1];exact hs) (fun j hj=>hc j (by rw[←q1];exact hj)) fun j hj=>by rw[q1] at hj;exact ih j hj _ (q2 j hj)
  ·exact hr.elim
theorem rv_csize {iv:Nat→Option Nat} {v u:V} (h:RV iv v u):u.csize=v.csize∧ ∀j,j<v.csize→RV iv (v.cell j) (u.cell j):=by
 cases v with
 |st l=>
  unfold RV at h
  split at h
  ·exact RVL_get h
  ·exact h.elim
 |_=>
  have h0:=h
  have hst: ∀l,u≠ .st l:=fun l e=>by subst e;simp[RV] at h
  have hu:u.csize=1∧ ∀j,u.cell j=u:=by cases u<;>first|exact⟨rfl,fun _=>rfl⟩|exact absurd rfl (hst _)
  exact⟨hu.1,fun j _=>by rw[hu.2 j];exact h0⟩
theorem subER_get {iv:Nat→Option Nat} {e t:En} (h:subER iv e t): ∀k u,t.get k=some u→ ∃v,e.get k=some v∧RV iv v u:=by
 induction t with
 |nil=>intro k v hk;simp[En.get] at hk
 |cons p r ih=>
  obtain⟨k',v'⟩:=p
  intro k u hk
  simp only[En.get] at hk
  split at hk
  ·rename_i he;subst he;simp only[Option.some.injEq] at hk;subst hk
   have h1:=h.1
   split at h1
   ·rename_i v hv;exact⟨v,hv,h1⟩
   ·exact h1.elim
  ·exact ih h.2 k u hk
theorem subHR_get {iv:Nat→Option Nat} {e t:List (Nat×Ob)} (h:subHR iv e t): ∀k u,Hroot t k=some u→ ∃k0 o,iv k=some k0∧Hroot e k0=some o∧RO iv o u:=by
 induction t with
 |nil=>intro k v hk;simp[Hroot] at hk
 |cons p r ih=>
  obtain⟨k',v'⟩:=p
  intro k u hk
  simp only[Hroot] at hk
  split at hk
  ·rename_i he;subst he;simp only[Option.some.injEq] at hk;subst hk
   have h1:=h.1
   split at h1
   ·rename_i k0 hk0
    split at h1
    ·rename_i o ho;exact⟨k0,o,hk0,ho,h1⟩
    ·exact h1.elim
   ·exact h1.elim
  ·exact ih h.2 k u hk
theorem lookN_mem {σ:List (Nat×Nat)} {k v:Nat} (h:lookN σ k=some v):(k,v)∈σ:=by
 induction σ with
 |nil=>simp[lookN] at h
 |cons p r ih=>
  obtain⟨a,b⟩:=p
  simp only[lookN] at h
  split at h
  ·rename_i he;subst he;simp only[Option.some.injEq] at h;subst h;exact List.mem_cons_self ..
  ·exact List.mem_cons_of_mem _ (ih h)
theorem newLt_mem {n:Nat} {σ:List (Nat×Nat)} (h:newLt n σ) {p:Nat×Nat} (hp:p∈σ):p.1<n:=by
 induction σ with
 |nil=>simp at hp
 |cons q r ih=>
  rcases List.mem_cons.1 hp with rfl|hp
  ·exact h.1
  ·exact ih h.2 hp
theorem notIn_mem {v:Nat} {σ:List (Nat×Nat)} (h:notIn v σ) {k:Nat} (hp:(k,v)∈σ):False:=by
 induction σ with
 |nil=>simp at hp
 |cons q r ih=>
  rcases List.mem_cons.1 hp with he|hp
  ·subst he;exact h.1 rfl
  ·exact ih h.2 hp
theorem oldNe_inj {σ:List (Nat×Nat)} (h:oldNe σ) {k k' v:Nat} (h1:(k,v)∈σ) (h2:(k',v)∈σ):k=k':=by
 induction σ with
 |nil=>simp at h1
 |cons q r ih=>
  rcases List.mem_cons.1 h1 with he|m1
  ·subst he
   rcases List.mem_cons.1 h2 with he|m2
   ·simpa using he.symm
   ·exact(notIn_mem h.1 m2).elim
  ·rcases List.mem_cons.1 h2 with he|m2
   ·subst he;exact(notIn_mem h.1 m1).elim
   ·exact ih h.2 m1 m2
theorem oldOk_mem {b:Nat} {ks:List Nat} {σ:List (Nat×Nat)} (h:oldOk b ks σ) {p:Nat×Nat} (hp:p∈σ):b≤p.2∨ninL ks p.2:=by
 induction σ with
 |nil=>simp at hp
 |cons q r ih=>
  rcases List.mem_cons.1 hp with rfl|hp
  ·exact h.1
  ·exact ih h.2 hp
theorem ivN_inj {b:Nat} {ks:List Nat} {σ:List (Nat×Nat)} (h1:oldOk b ks σ) (h2:oldNe σ) {k k' v:Nat} (e1:ivN b σ k=some v) (e2:ivN b σ k'=some v) (m1:k∈ks) (m2:k'∈ks):k=k':=by
 unfold ivN at e1 e2
 split at e1
 ·split at e2
  ·simp only[Option.some.injEq] at e1 e2;omega
  ·have:=oldOk_mem h1 (lookN_mem e2)
   simp only[Option.some.injEq] at e1
   subst e1
   rcases this with h|h
   ·simp only at h;omega
   ·exact absurd m1 (ninL_ok h)
 ·split at e2
  ·have:=oldOk_mem h1 (lookN_mem e1)
   simp only[Option.some.injEq] at e2
   subst e2
   rcases this with h|h
   ·simp only at h;omega
   ·exact absurd m2 (ninL_ok h)
  ·exact oldNe_inj h2 (lookN_mem e1) (lookN_mem e2)
theorem ct_cell {c:V} {sz n:Nat} {cc:Nat→V} {i j:Nat} (hc:c.ct=true) (he:c.elems=some (sz,n,cc)) (hi:i<n):ct1 ((cc i).cell j)=true:=by
 cases c with
 |«by» l=>
  obtain⟨rfl,rfl,rfl⟩:1=sz∧l.length=n∧_=cc:=by simpa [V.elems] using he
  rfl
 |sq sz' d l=>
  simp only[V.elems] at he
  split at he
  ·cases he
  ·obtain⟨rfl,rfl,rfl⟩:sz'=sz∧l.length=n∧_=cc:=by simpa using he
   have h1:ct2 (l.getD i d)=true:=List.all_eq_true.1 hc _ (by simp[List.getD_eq_getElem?_getD,hi])
   show ct1 ((l.getD i d).cell j)=true
   generalize l.getD i d=v at h1
   cases v with
   |st q=>
    show ct1 (q.getD j .any)=true
    by_cases hq:j<q.length
    ·exact List.all_eq_true.1 h1 _ (by simp[List.getD_eq_getElem?_getD,hq])
    ·rw[List.getD_eq_getElem?_getD,List.getElem?_eq_none (by omega)];rfl
   |_=>exact h1
 |_=>simp[V.elems] at he
theorem cl_cell {c:V} {sz n:Nat} {cc:Nat→V} {i j:Nat} (hc:c.cl=true) (he:c.elems=some (sz,n,cc)) (hi:i<n):((cc i).cell j).cl=true:=by
 cases c with
 |«by» l=>
  obtain⟨rfl,rfl,rfl⟩:1=sz∧l.length=n∧_=cc:=by simpa [V.elems] using he
  rfl
 |sq sz' d l=>
  simp only[V.elems] at he
  split at he
  ·cases he
  ·obtain⟨rfl,rfl,rfl⟩:sz'=sz∧l.length=n∧_=cc:=by simpa using he
   simp only[V.cl,clL_all] at hc
   have h1:(l.getD i d).cl=true:=List.all_eq_true.1 hc _ (by simp[List.getD_eq_getElem?_getD,hi])
   show((l.getD i d).cell j).cl=true
   generalize l.getD i d=v at h1
   cases v with
   |st q=>
    simp only[V.cl,clL_all] at h1
    show(q.getD j .any).cl=true
    by_cases hq:j<q.length
    ·exact List.all_eq_true.1 h1 _ (by simp[List.getD_eq_getElem?_getD,hq])
    ·rw[List.getD_eq_getElem?_getD,List.getElem?_eq_none (by omega)];rfl
   |_=>exact h1
 |_=>simp[V.elems] at he
theorem Sat.ren {F:Cx} {b:Nat} {σ:List (Nat×Nat)} {t:S} (hs:Sat x s F a w) (hb: ∀m:Nm,b≤m.root→x.C.O m=none∧x.C.W m=none) (h:SubR b σ s t): ∃G,Sat x t G a w:=by
 obtain⟨he,hh,hlt,hbn,hge,hne⟩:=h
 let G:Cx:=⟨F.F,fun m=>(ivN b σ m.root).bind fun k=>F.O (m.mv k),fun m=>(ivN b σ m.root).bind fun k=>F.W (m.mv k)⟩
 have hO: ∀m' m,NR (ivN b σ) m m'→G.O m'=F.O m:=fun m' m h=>by
  obtain⟨h1,h2⟩:=NR_mv h
  simp[G,h1,h2]
 have hW: ∀m' m,NR (ivN b σ) m m'→G.W m'=F.W m:=fun m' m h=>by
  obtain⟨h1,h2⟩:=NR_mv h
  simp[G,h1,h2]
 have hren: ∀v u y,RV (ivN b σ) v u→Rep w F v y→Rep w G u y:=fun v u y h1 h2=>Rep.ren (G:=G) h2 (fun _ h=>h) hO hW u h1
 have hob: ∀m u,Hget t.h m=some u→ ∃m0 o,NR (ivN b σ) m0 m∧Hget s.h m0=some o∧G.blk m u=F.blk m0 o∧ObOk w G m u:=fun m u hm=>by
  cases m with
  |r k=>
   obtain⟨k0,o,h1,h2,h3⟩:=subHR_get hh k u hm
   have hnr:NR (ivN b σ) (.r k0) (.r k):=h1
   have hok:=hs.own (.r k0) o h2
   cases o with
   |box ty v=>
    cases u with
    |row ty' v'=>exact h3.elim
    |box ty' v'=>
     obtain⟨rfl,h3⟩:=h3
     obtain⟨bl,cs,u,q1,q2,q3,q4,q5,q6⟩:=hok
     obtain⟨r1,r2⟩:=rv_csize h3
     exact⟨.r k0,_,hnr,h2,by simp[Cx.blk,hO _ _ hnr],bl,cs,u,(hO _ _ hnr).trans q1,q2,by rw[r1];exact q3,fun j hj=>q4 j (by rw[r1] at hj;exact hj),fun j hj=>by rw[r1] at hj;exact hren _ _ _ (r2 j hj) (q5 j hj),q6⟩
   |row ty v=>
    cases u with
    |box ty' v'=>exact h3.elim
    |row ty' v'=>
     obtain⟨rfl,rfl,hct⟩:=h3
     obtain⟨y,sz,n,c,u,xs,q1,q2,q3,q4,q5,q6,q7⟩:=hok
     refine⟨.r k0,_,hnr,h2,by simp[Cx.blk,hW _ _ hnr],y,sz,n,c,u,xs,(hW _ _ hnr).trans q1,q2,q3,q4,fun i hi j hj=> ?_,q6,q7⟩
     have h5:=q5 i hi j hj
     have hc1:=ct_cell (j:=j) hct q2 hi
     generalize (c i).cell j=v at h5 hc1
     have hnc:NR (ivN b σ) (.c k0 i j) (.c k i j):=⟨h1,rfl,rfl⟩
     cases v with
     |own ty2 s2 q=>
      cases q with
      |none=>
       have:=rep_ro h5
       exact .ro _ _ ((hW _ _ hnc).trans this)
      |some n2=>
       simp only[refV] at h5⊢
       split
       ·rename_i z _ _ hz
        simp only[hz] at h5
        obtain⟨A,N,cap,B,e1,e2,e3,e4⟩:=rep_vw h5
        rw[e4]
        exact .vw _ _ _ _ N cap A B ((hW _ _ hnc).trans e1) ⟨e2,e3⟩
       ·exact .any _
     |_=>exact Rep.cl_any (F:=F) h5 hc1 fun _ h=>h
  |c k i j=>
   obtain⟨ty,s0,sz,n,c,ty',s',q,hr,hel,hi,hj,hc,rfl⟩:=Hget_c hm
   obtain⟨k0,o,h1,h2,h3⟩:=subHR_get hh k _ hr
   cases o with
   |box ty2 v=>exact h3.elim
   |row ty2 v=>
    obtain⟨rfl,rfl,hct⟩:=h3
    have hnc:NR (ivN b σ) (.c k0 i j) (.c k i j):=⟨h1,rfl,rfl⟩
    have hg:Hget s.h (.c k0 i j)=some (.row ty' s'):=by
     simp only[Hget,h2,Hchild,hel,hc,if_pos (And.intro hi hj)]
    obtain⟨y,sz2,n2,c2,u,xs,q1,q2,q3,q4,q5,q6,q7⟩:=hs.own _ _ hg
    refine⟨.c k0 i j,_,hnc,hg,by simp[Cx.blk,hW _ _ hnc],y,sz2,n2,c2,u,xs,(hW _ _ hnc).trans q1,q2,q3,q4,fun i' hi' j' hj'=> ?_,q6,q7⟩
    have h5:=q5 i' hi' j' hj'
    have hcl:s'.cl=true:=by
     have:=ct_cell (j:=j) hct hel hi
     rw[hc] at this
     exact this
    have hc1:((c2 i').cell j').cl=true:=cl_cell hcl q2 hi'
    generalize (c2 i').cell j'=v at h5 hc1
    cases v with
    |own ty2 s2 q=>simp[V.cl] at hc1
    |_=>exact Rep.cl_any (F:=F) h5 hc1 fun _ h=>h
 refine⟨G,hs.ev,fun k u hk=> ?_,hs.df,hs.sz,hs.fold,hs.flt,fun m hm=> ?_,fun m u hm=> ?_,fun m u g hm hg=> ?_,fun m u g hm hg=> ?_,fun m m' u u' g hm hm' hg hg'=> ?_,fun m y hm=> ?_,⟨hs.le.le1,fun m bl hm=> ?_,fun m y hm=> ?_⟩,hs.inv⟩
 ·obtain⟨v,h1,h2⟩:=subER_get he k u hk
  exact⟨(hs.env k v h1).1,hren _ _ _ h2 (hs.env k v h1).2⟩
 ·have:ivN b σ m.root=none:=by
   unfold ivN
   rw[if_neg (by omega)]
   cases hl:lookN σ m.root with
   |none=>rfl
   |some v=>have:=newLt_mem hlt (lookN_mem hl);simp only at this;omega
  simp[G,this]
 ·obtain⟨_,_,_,_,_,h⟩:=hob m u hm;exact h
 ·obtain⟨m0,o,h1,h2,h3,_⟩:=hob m u hm
  rw[h3] at hg
  exact hs.own2 m0 o g h2 hg
 ·obtain⟨m0,o,h1,h2,h3,_⟩:=hob m u hm
  rw[h3] at hg
  exact hs.own3 m0 o g h2 hg
 ·obtain⟨m0,o,h1,h2,h3,_⟩:=hob m u hm
  obtain⟨m0',o',h1',h2',h3',_⟩:=hob m' u' hm'
  rw[h3] at hg;rw[h3'] at hg'
  have:=hs.sep m0 m0' o o' g h2 h2' hg hg'
  subst this
  cases m0 with
  |r k=>
   cases m<;>cases m'<;>simp only[NR] at h1 h1'
   rw[ivN_inj hge hne h1 h1' (keys_get hm) (keys_get hm')]
  |c k i j=>
   cases m<;>cases m'<;>simp only[NR] at h1 h1'
   obtain⟨h1,rfl,rfl⟩:=h1
   obtain⟨h1',rfl,rfl⟩:=h1'
   rw[ivN_inj hge hne h1 h1' (keys_get hm) (keys_get hm')]
 ·have hk':((ivN b σ m.root).bind fun k=>F.W (m.mv k))=some y:=hm
  obtain⟨k0,_,h⟩:=Option.bind_eq_some_iff.1 hk'
  exact hs.wsl _ y h
 ·have hlt:m.root<b:=by
   rcases Nat.lt_or_ge m.root b with h|h
   ·exact h
   ·rw[(hb m h).1] at hm;cases hm
  have e:m.mv m.root=m:=by cases m<;>rfl
  show((ivN b σ m.root).bind fun k=>F.O (m.mv k))=some bl
  unfold ivN
  rw[if_pos hlt,Option.bind_some,e]
  exact hs.le.le2 m bl hm
 ·have hlt:m.root<b:=by
   rcases Nat.lt_or_ge m.root b with h|h
   ·exact h
   ·rw[(hb m h).2] at hm;cases hm
  have e:m.mv m.root=m:=by cases m<;>rfl
  show((ivN b σ m.root).bind fun k=>F.W (m.mv k))=some y
  unfold ivN
  rw[if_pos hlt,Option.bind_some,e]
  exact hs.le.le3 m y hm
theorem Sat.subs {F:Cx} {b:Nat} {t:S} (hs:Sat x s F a w) (hb: ∀m:Nm,b≤m.root→x.C.O m=none∧x.C.W m=none) (h:Subs b s t): ∃G,Sat x t G a w:=by
 rcases h with h|⟨σ,h⟩|⟨ad,h⟩
 ·exact⟨F,hs.sub h⟩
 ·exact hs.ren hb h
 ·exact hs.adsub h
theorem vg_ok (hG:SigOk P G) (hJ:x.J=G.J) (hb: ∀m:Nm,G.b≤m.root→x.C.O m=none∧x.C.W m=none) (hm:P.follows .mixedOrders=true): ∀(c:Code) (s:S) (K:Ko) (Q:Exit→Act→World→Prop) (F:Cx) (a:Act) (w:World),
  okC x.n c=true→vg P G c s K→KOk x K Q→Sat x s F a w→c.wp P Q a w:=by
 intro c
 induction c with
 |skip=>exact fun s K Q F a w _ h hK hs=>wp_skip (hK.nrm s F a w h hs)
 |label l=>exact fun s K Q F a w _ h hK hs=>wp_label (hK.nrm s F a w h hs)
 |ret=>exact fun s K Q F a w _ h hK hs=>wp_ret (hK.ret s F a w h hs)
 |exit id=>
  intro s K Q F a w _ h hK hs
  simp only[vg] at h
  split at h
  ·rename_i k hk;exact wp_exit (hK.ex id k hk s F a w h hs)
  ·exact h.elim
 |seq c d ih1 ih2=>
  intro s K Q F a w ho h hK hs
  simp only[okC,Bool.and_eq_true] at ho
  refine wp_seq (ih1 s _ _ F a w ho.1 h ⟨fun s' F' a' w' h' hs'=>ih2 s' K Q F' a' w' ho.2 h' hK hs',fun s' F' a' w' h' hs'=>hK.ret s' F' a' w' h' hs',fun id k hk s' F' a' w' h' hs'=>hK.ex id k hk s' F' a' w' h' hs'⟩ hs)
 |cond o c d ih1 ih2=>
  intro s K Q F a w ho h hK hs
  simp only[okC,Bool.and_eq_true] at ho
  simp only[vg] at h
  split at h
  ·rename_i b hb
   simp only[Option.bind_eq_some_iff] at hb
   obtain⟨v,hv,hb⟩:=hb
   have he:=rep_vbool hb (hs.env.ev hs.inv (hJ▸hv))
   refine wp_cond_split he (fun ht=> ?_) (fun ht=> ?_)
   ·exact ih1 s K Q F a w ho.1 (h.1 ht) hK hs
   ·exact ih2 s K Q F a w ho.2 (h.2 ht) hK hs
  ·exact h.elim
 |block id c ih=>
  intro s K Q F a w ho h hK hs
  refine wp_block (ih s _ _ F a w ho h ⟨hK.nrm,hK.ret,fun id' k hk s' F' a' w' h' hs'=> ?_⟩ hs)
  simp only[exGet] at hk
  simp only[Exit.inBlock]
  split at hk
  ·rename_i he;subst he;simp only[Option.some.injEq] at hk;subst hk
   rw[if_pos rfl];exact hK.nrm s' F' a' w' h' hs'
  ·rename_i he
   rw[if_neg (fun e=>he e.symm)]
   exact hK.ex id' k hk s' F' a' w' h' hs'
 |scope c ih=>
  intro s K Q F a w ho h hK hs
  exact wp_scope_straight (ih s K _ F a w ho h ⟨hK.nrm,hK.ret,hK.ex⟩ hs)
 |loop c ih=>
  intro s K Q F a w ho h hK hs
  obtain⟨α,J,I,m,x0,ad,h0,h1,h2⟩:=h
  obtain⟨F0,hs0⟩:=hs.adsub h1
  refine wp_loop_ghost (fun n a w=> ∃y F,J y∧m y=n∧Sat x (I y) F a w) (m x0) ⟨x0,F0,h0,rfl,hs0⟩ fun n a w ⟨y,F,hy,hn,hs⟩=> ?_
  refine ih (I y) _ _ F a w ho (h2 y hy) ⟨fun s' F' a' w' ⟨y',hy',hlt,hsub⟩ hs'=> ?_,fun s' F' a' w' h' hs'=>hK.ret s' F' a' w' h' hs',fun id k hk s' F' a' w' h' hs'=>hK.ex id k hk s' F' a' w' h' hs'⟩ hs
  obtain⟨F2,hs2⟩:=hs'.subs hb hsub
  exact⟨m y',by omega,y',F2,hy',rfl,hs2⟩
 |region id ops q=>
  intro s K Q F a w ho h hK hs
  simp only[okC,Bool.and_eq_true] at ho
  have hd:dstsOk x.n ops.toList:=by
   intro o hoo d hd
   have:=List.all_eq_true.1 ho.1 o hoo
   rw[hd] at this
   simpa using this
  have quiet:Region.lexB .any ops=true→vops P G true ops.toList K.nrm ops.toList s→(Code.region id ops true).wp P Q a w:=by
   intro hlex h
   have hx:Ext w {w with drawn:=w.drawn+1}:=Ext.drawn w _
   refine wp_region_quiet (C:=Ext w) hm hlex hx ?_
   have hq:=vopsq_ok hG hJ ops.toList s a hd h hs
   have mono: ∀(l:List Oper) (a:Act),wpQuiet P ops (Ext w) (fun a'=> ∃s',K.nrm s'∧Sat x s' F a' w) l a→wpQuiet P ops (Ext w) (fun a'=> ∀w',Ext w w'→Q .normal a' w') l a:=by
    intro l
    induction l with
    |nil=>exact fun a ⟨s',h1,h2⟩ w' hw'=>hK.nrm s' F a w' h1 (h2.ext' hw')
    |cons o r ih=>
     intro a h
     simp only[wpQuiet] at h⊢
     split at h
     ·rename_i hw;rw[if_pos hw];exact Oper.quiet_mono (fun a h=>ih a h) h
     ·rename_i hw;rw[if_neg hw];exact ih _ h
   exact mono _ _ hq
  simp only[vg] at h
  split at h
  ·rename_i hqe
   simp only[Bool.and_eq_true] at hqe
   obtain rfl:=hqe.1
   rcases h with ⟨h1,h2⟩|⟨sch,m,h1,h2⟩|⟨t,m,h1,h2⟩|⟨sch,m,R,h1,h2⟩
   ·exact quiet (by simpa using h1) h2
   ·simp only[chkD,Bool.and_eq_true,decide_eq_true_eq] at h1
    obtain⟨⟨hsel,hlen⟩,hc⟩:=h1
    have h3:=vopsD_ok (x:=x) hG hJ (ops:=ops) (Q:=fun e a w=>e= .normal∧Q .normal a w) (fun s F a w h hs=>⟨rfl,hK.nrm s F a w h hs⟩) (fun c a w h=>by simp at h) (by simpa using hsel) hd sch s F a {w with drawn:=w.drawn+1} (Array.replicate ops.size false) ops.size (by simpa using hc) (by simpa using hlen) h2 (hs.ext' (Ext.drawn w (w.drawn+1)))
    exact Code.wp_mono (fun e a w h=>by obtain⟨rfl,h⟩:=h;exact h) (wp_region_any hm (wpAny_of_G _ _ _ _ h3))
   ·simp only[chkTr,Bool.and_eq_true,decide_eq_true_eq] at h1
    obtain⟨⟨hsel,hlen⟩,hc⟩:=h1
    have h3:=vopsT_ok (x:=x) hG hJ (ops:=ops) (Q:=fun e a w=>e= .normal∧Q .normal a w) (fun s F a w h hs=>⟨rfl,hK.nrm s F a w h hs⟩) (fun c a w h=>by simp at h) (by simpa using hsel) hd t s F a {w with drawn:=w.drawn+1} (Array.replicate ops.size false) ops.size (by simpa using hc) (by simpa using hlen) h2 (hs.ext' (Ext.drawn w (w.drawn+1)))
    exact Code.wp_mono (fun e a w h=>by obtain⟨rfl,h⟩:=h;exact h) (wp_region_any hm (wpAny_of_G _ _ _ _ h3))
   ·simp only[chkR,Bool.and_eq_true,decide_eq_true_eq] at h1
    obtain⟨⟨hsel,hlen⟩,hc⟩:=h1
    have h3:=vopsR_ok (x:=x) hG hJ (ops:=ops) (Q:=fun e a w=>e= .normal∧Q .normal a w) (fun s F a w h hs=>⟨rfl,hK.nrm s F a w h hs⟩) (fun c a w h=>by simp at h) (by simpa using hsel) hd sch s F a {w with drawn:=w.drawn+1} (Array.replicate ops.size false) ops.size (by simpa using hc) (by simpa using hlen) h2 (hs.ext' (Ext.drawn w (w.drawn+1)))
    exact Code.wp_mono (fun e a w h=>by obtain⟨rfl,h⟩:=h;exact h) (wp_region_any hm (wpAny_of_G _ _ _ _ h3))
  ·rename_i hqe
   cases q
   ·exact wp_region_list (vops_ok hG hJ (fun s F a w h hs=>hK.nrm s F a w h hs) ops.toList s F a w hd h hs)
   ·have he:effL ops.toList=false:=by simpa using hqe
    rw[he] at ho
    exact quiet (by simpa using ho.2) h
 |_=>intro s K Q F a w _ h;simp[vg] at h
end
end Go.Proofs.YtfengpdaocgcnaaGreatDoor
