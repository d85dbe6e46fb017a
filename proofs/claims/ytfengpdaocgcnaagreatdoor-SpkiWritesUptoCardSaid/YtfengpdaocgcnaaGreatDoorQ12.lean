/- What makes memory, writes or calls; statements. -/
import Derived.Test.YtfengpdaocgcnaaGreatDoorQ10
import Derived.Test.YtfengpdaocgcnaaGreatDoorQ11
import Derived.Lib.ConvBytes
namespace Go.Proofs.YtfengpdaocgcnaaGreatDoor
open Go.RowKit
def vstrB (P:Program) (s:S) (d:Option Nat) (src dst:TypeId) (v:V):Option (List Prop×S):=
 match P.underlying src,P.underlying dst,v with
 |some .string,some (.slice e), .str l=>match P.underlying e with
  |some (.int .u8)=>some ([],{s with e:=s.e.put d (.by l)})
  |_=>none
 |_,_,_=>none
theorem frzE_get {h:List (Nat×Ob)} {ks:List Nat}: ∀{e:En} {t:Nat} {v:V},(frzE h ks e).get t=some v→ ∃v0,e.get t=some v0∧v=frz1 h ks v0
 |[],t,v,h=>by simp[frzE,En.get] at h
 |(t0,v0)::r,t,v,h=>by
  simp only[frzE,En.get] at h⊢
  split at h
  ·rename_i e
   rw[if_pos e]
   exact⟨v0,rfl,by simpa using h.symm⟩
  ·rename_i e
   rw[if_neg e]
   exact frzE_get h
theorem Sat.lessF {x:Fx} {F:Cx} {w:World} {a:Act} {s:S} (hs:Sat x s F a w) (ks:List Nat):Sat x ⟨frzE s.h ks s.e,HdelK s.h ks,s.nx⟩ (F.less s.h ks) a w:=
 {hs.less ks with
  env:=fun t v ht=>by
   obtain⟨v0,h0,rfl⟩:=frzE_get ht
   refine⟨(hs.env t v0 h0).1,?_⟩
   have old:=(hs.env t v0 h0).2
   unfold frz1
   split
   ·exact old.le (less_le F s.h ks w)
   ·rename_i k r hr
    split
    ·rename_i hall
     split
     ·rename_i hz
      refine fz_ok hs old (by rw[hz];exact fun p hp=>by cases hp) fun k' hk'=> ?_
      rw[hr] at hk'
      exact memN_iff.1 (List.all_eq_true.1 hall k' hk')
     ·exact old.le (less_le F s.h ks w)
    ·exact old.le (less_le F s.h ks w)}
def vmark (P:Program) (s:S) (d:Option Nat) (src dst:TypeId) (v:V):Option (List Prop×S):=
 match v with
 | .ro (.r k)=>match P.underlying src,Hroot s.h k with
  |some (.slice e),some (.row _ (.by l))=>match P.underlying e with
   |some (.int .u8)=>if src=dst∧noBox s.h [k]=true then some ([0<l.length],⟨En.put (frzE s.h [k] s.e) d (.by l),HdelK s.h [k],s.nx⟩) else none
   |_=>none
  |_,_=>none
 |_=>none
def sameSl (P:Program) (t' t:TypeId):Bool:=match P.underlying t',P.underlying t with
 |some (.slice a),some (.slice b)=>decide (a=b)
 |_,_=>false
theorem sameSl_ok {P:Program} {t' t:TypeId} (h:sameSl P t' t=true):P.underlying t'=P.underlying t:=by
 unfold sameSl at h
 split at h
 ·rename_i a b h1 h2
  rw[h1,h2,of_decide_eq_true h]
 ·cases h
def vact (P:Program) (js:Option (List Nat)) (G:Sig) (s:S) (o:Oper):Option (List Prop×S):=
 match o.op with
 | .box t x=>match ug (s.e.ev G.J.gl x) with
  |some (v,l)=>addL l (vbox s o.dst t v)
  |none=>none
 | .alloc t=>valloc P s o.dst t
 | .store t p x=>match o.dst with
  |none=>match ug (s.e.ev G.J.gl p) with
   |some (pv,l1)=>match ug (s.e.ev G.J.gl x) with
    |some (v,l2)=>addL (l1++l2) (vstore P js s t pv v)
    |none=>none
   |none=>none
  |some _=>none
 | .build t ps=>vbuild P G.J.gl s o.dst t ps.toList
 | .buildSlice t n ps=>vbuildSlice P G.J.gl G.df s o.dst t n ps.toList
 | .makeSlice t n c=>match ug (s.e.ev G.J.gl n) with
  |some (p,l1)=>match ug (s.e.ev G.J.gl c) with
   |some (q,l2)=>addL (l1++l2) (vmake P G.df s o.dst t p q)
   |none=>none
  |none=>none
 | .convert src dst x=>match ug (s.e.ev G.J.gl x) with
  |some (v,l)=>match vstrB P s o.dst src dst v with
   |some r=>addL l (some r)
   |none=>addL l (vmark P s o.dst src dst v)
  |none=>none
 | .call c=>match c.callee with
  | .value (.func f)=>match vcallF G s o.dst f c.args.toList with
   |some r=>some r
   |none=>vcallH js G s o.dst f c.args.toList
  | .builtin .append=>match c.args.toList with
   |[x,y]=>match c.argTypes.toList with
    |[t,t']=>if sameSl P t' t=true then match ug (s.e.ev G.J.gl x) with
     |some (p,l1)=>match ug (s.e.ev G.J.gl y) with
      |some (q,l2)=>addL (l1++l2) (vappend P s o.dst t p q)
      |none=>none
     |none=>none
     else match ug (s.e.ev G.J.gl x) with
     |some (p,l1)=>match ug (s.e.ev G.J.gl y) with
      |some (q,l2)=>addL (l1++l2) (vappS P s o.dst t t' p q)
      |none=>none
     |none=>none
    |_=>none
   |_=>none
  | .builtin .copy=>match c.args.toList with
   |[x,y]=>match c.argTypes.toList with
    |[t,_]=>match ug (s.e.ev G.J.gl x) with
     |some (p,l1)=>match ug (s.e.ev G.J.gl y) with
      |some (q,l2)=>addL (l1++l2) (vcopy P s o.dst t p q)
      |none=>none
     |none=>none
    |_=>none
   |_=>none
  | .builtin .clear=>match c.args.toList with
   |[x]=>match c.argTypes.toList with
    |[t]=>match ug (s.e.ev G.J.gl x) with
     |some (p,l)=>addL l (vclear P s o.dst t p)
     |none=>none
    |_=>none
   |_=>none
  |_=>none
 |_=>none
def wantB (want b:Bool):Bool:=match want with|true=>b|false=> !b
def gcond (ops:List Oper) (e:En):Option (Nat×Bool)→Option (Option Bool)
 |none=>some none
 |some (j,want)=>match (ops[j]?).bind (·.dst) with
  |some d=>match e.get d with
   |some (.gd h v)=>(vbool v).map fun b=>some (h&&wantB want b)
   |some v=>(vbool v).map fun b=>some (wantB want b)
   |none=>none
  |none=>none
def obs (l:List Prop) (K:Prop):Prop:=
 match l with
 |[]=>K
 |p::r=>p∧obs r K
def obsIf (g:Prop) (l:List Prop) (K:Prop):Prop:=
 match l with
 |[]=>K
 |p::r=>(g→p)∧obsIf g r K
theorem obs_iff {l:List Prop} {K:Prop}:obs l K↔AllP l∧K:=by
 induction l with
 |nil=>simp[obs,AllP]
 |cons p r ih=>
  simp only[obs,ih]
  constructor
  ·rintro⟨h1,h2,h3⟩
   exact⟨fun q hq=>by rcases List.mem_cons.1 hq with rfl|hq;exact h1;exact h2 q hq,h3⟩
  ·rintro⟨h1,h3⟩
   exact⟨h1 p (List.mem_cons_self ..),fun q hq=>h1 q (List.mem_cons_of_mem _ hq),h3⟩
theorem obsIf_iff {g:Prop} {l:List Prop} {K:Prop}:obsIf g l K↔(g→AllP l)∧K:=by
 induction l with
 |nil=>simp[obsIf,AllP]
 |cons p r ih=>
  simp only[obsIf,ih]
  constructor
  ·rintro⟨h1,h2,h3⟩
   exact⟨fun hg q hq=>by rcases List.mem_cons.1 hq with rfl|hq;exact h1 hg;exact h2 hg q hq,h3⟩
  ·rintro⟨h1,h3⟩
   exact⟨fun hg=>h1 hg p (List.mem_cons_self ..),fun hg q hq=>h1 hg q (List.mem_cons_of_mem _ hq),h3⟩
def vone (P:Program) (G:Sig) (q:Bool) (ops:List Oper) (s:S) (o:Oper):Option (Option Bool×List Prop×S):=
 match vq P G s o.op with
 |none=>none
 |some (v,l)=>match q&& !v.exact.isSome&&(match o.op with| .call _=>true|_=>false) with
  |true=>none
  |false=>match gcond ops s.e o.guard with
   |some none=>some (none,l,{s with e:=s.e.put o.dst v})
   |some (some g)=>some (some g,l,{s with e:=s.e.put o.dst (.gd g v)})
   |none=>none
def vgH (G:Sig) (q:Bool) (ops:List Oper) (s:S) (o:Oper):Option (Bool×List Prop×S):=
 match q with
 |true=>none
 |false=>match o.op with
  | .call c=>match c.callee with
   | .value (.func f)=>vgcH G (gcond ops s.e o.guard) s o.dst f c.args.toList
   |_=>none
  |_=>none
def vfst (P:Program) (G:Sig) (q:Bool) (s:S) (o:Oper):Option (List Prop×S):=
 match q||o.guard.isSome with
 |true=>none
 |false=>vact P none G s o
def undV (s1:S) (d:Option Nat):V:=
 match d with
 |some d=>match s1.e.get d with
  |some v=>(fz s1.h v).1
  |none=> .any
 |none=> .any
def vgA (P:Program) (js:Option (List Nat)) (G:Sig) (q:Bool) (ops:List Oper) (s:S) (o:Oper):Option (Bool×List Prop×S×S):=
 match q with
 |true=>none
 |false=>match gcond ops s.e o.guard with
  |some (some g)=>match vact P js G s o with
   |some (l,s1)=>some (g,l,s1,{s with e:=s.e.put o.dst (.gd false (undV s1 o.dst))})
   |none=>none
  |_=>none
def Brg (g:Bool) (A B:Prop):Prop:=(g=true→A)∧(g=false→B)
theorem Brg_t (A B:Prop):Brg true A B=A:=propext ⟨fun h=>h.1 rfl,fun h=>⟨fun _=>h,fun h=>by cases h⟩⟩
theorem Brg_f (A B:Prop):Brg false A B=B:=propext ⟨fun h=>h.2 rfl,fun h=>⟨fun h=>by (cases h),fun _=>h⟩⟩
def vno (q:Bool) (ops:List Oper) (s:S) (o:Oper):Option (Bool×S):=
 match q with
 |true=>none
 |false=>match gcond ops s.e o.guard with
  |some (some g)=>some (g,{s with e:=s.e.put o.dst (.gd false .any)})
  |_=>none
def vops (P:Program) (G:Sig) (q:Bool) (ops:List Oper) (K:S→Prop):List Oper→S→Prop
 |[],s=>K s
 |o::r,s=>
  match vfst P G q s o with
  |some (l,s')=>obs l (vops P G q ops K r s')
  |none=>match vone P G q ops s o with
   |some (none,l,s')=>obs l (vops P G q ops K r s')
   |some (some g,l,s')=>obsIf (g=true) l (vops P G q ops K r s')
   |none=>match vgH G q ops s o with
    |some (g,l,s')=>obsIf (g=true) l (vops P G q ops K r s')
    |none=>match vgA P none G q ops s o with
     |some (g,l,s1,s0)=>Brg g (obs l (vops P G q ops K r s1)) (vops P G q ops K r s0)
     |none=>match vno q ops s o with
      |some (g,s0)=>g=false∧vops P G q ops K r s0
      |none=>False
section
variable {P:Program} {G:Sig} {x:Fx} {F:Cx} {w w':World} {a:Act} {s:S}
theorem rep_tu {l:List V} {y:Value} (h:Rep w F (.tu l) y): ∃(cs:Array Value) (u:Nat→Value),y= .tuple cs∧cs.size=l.length∧(∀j,j<l.length→cs[j]?=some (u j))∧ ∀j,j<l.length→Rep w F (l.getD j .any) (u j):=by
 cases h with
 |tu _ cs u hs hc hr=>exact⟨cs,u,rfl,hs,hc,hr⟩
 |sl _ _ _ _ _ _ _ _ _ he=>simp[V.elems] at he
theorem ex0_ok {v:V} {z y:Value} (h:v.ex0=some z) (hr:Rep w F v y):y=z:=by
 cases v<;>simp only[V.ex0,Option.some.injEq,reduceCtorEq] at h
 ·subst h;exact rep_val hr
 ·subst h;exact rep_bb hr
 ·subst h;exact rep_str hr
theorem exL_ok: ∀{l:List V} {zs:List Value} {u:Nat→Value},exL l=some zs→(∀j,j<l.length→Rep w F (l.getD j .any) (u j))→zs.length=l.length∧ ∀j,j<l.length→zs[j]?=some (u j)
 |[],zs,u,h,_=>by simp only[exL,Option.some.injEq] at h;subst h;exact⟨rfl,fun j hj=>by simp at hj⟩
 |v::r,zs,u,h,hr=>by
  simp only[exL] at h
  split at h
  ·rename_i x xs h1 h2
   simp only[Option.some.injEq] at h
   subst h
   obtain⟨q1,q2⟩:=exL_ok (u:=fun j=>u (j+1)) h2 (fun j hj=>by have:=hr (j+1) (by simpa using hj);simpa using this)
   refine⟨by simp[q1],fun j hj=> ?_⟩
   cases j with
   |zero=>
    have:=ex0_ok h1 (by have:=hr 0 (by simp);simpa using this)
    simp[this]
   |succ j=>simpa using q2 j (by simpa using hj)
  ·cases h
theorem exact_ok {v:V} {z y:Value} (h:v.exact=some z) (hr:Rep w F v y):y=z:=by
 unfold V.exact at h
 split at h
 ·rename_i l
  obtain⟨cs,u,rfl,hs,hc,hrr⟩:=rep_tu hr
  split at h
  ·rename_i xs hx
   simp only[Option.some.injEq] at h
   subst h
   obtain⟨q1,q2⟩:=exL_ok hx hrr
   congr 1
   apply Array.ext'
   refine List.ext_getElem? fun i=> ?_
   rw[Array.getElem?_toList,List.toList_toArray]
   by_cases hi:i<l.length
   ·rw[hc i hi,q2 i hi]
   ·rw[Array.getElem?_eq_none (by omega),List.getElem?_eq_none (by omega)]
  ·cases h
 ·exact ex0_ok h hr
theorem ex0_rep {v:V} {z:Value} (h:v.ex0=some z):Rep w F v z:=by
 cases v<;>simp only[V.ex0,Option.some.injEq,reduceCtorEq] at h
 ·subst h;exact .val _
 ·subst h;exact .bb _
 ·subst h;exact .str _
theorem exL_rep: ∀{l:List V} {zs:List Value},exL l=some zs→zs.length=l.length∧ ∀j,j<l.length→Rep w F (l.getD j .any) (zs.getD j undef)
 |[],zs,h=>by simp only[exL,Option.some.injEq] at h;subst h;exact⟨rfl,fun j hj=>by simp at hj⟩
 |v::r,zs,h=>by
  simp only[exL] at h
  split at h
  ·rename_i x xs h1 h2
   simp only[Option.some.injEq] at h
   subst h
   obtain⟨q1,q2⟩:=exL_rep h2
   refine⟨by simp[q1],fun j hj=> ?_⟩
   cases j with
   |zero=>simpa using ex0_rep h1
   |succ j=>simpa using q2 j (by simpa using hj)
  ·cases h
theorem exact_rep {v:V} {z:Value} (h:v.exact=some z):Rep w F v z:=by
 unfold V.exact at h
 split at h
 ·rename_i l
  split at h
  ·rename_i xs hx
   simp only[Option.some.injEq] at h
   subst h
   obtain⟨q1,q2⟩:=exL_rep (w:=w) (F:=F) hx
   exact .tu l _ (fun j=>xs.getD j undef) (by simp[q1]) (fun j hj=>by simp[q1,hj]) q2
  ·cases h
 ·exact ex0_rep h
theorem rep_gd_no {v:V} {y:Value} (h:Rep w F (.gd false v) y):y=undef:=by
 cases h with
 |gd _ _ _ _ hu=>exact hu rfl
 |sl _ _ _ _ _ _ _ _ _ he=>simp[V.elems] at he
theorem gcond_none {ops:List Oper} {e:En} {g:Option (Nat×Bool)} (h:gcond ops e g=some none):g=none:=by
 unfold gcond at h
 split at h
 ·rfl
 ·split at h
  ·split at h<;>simp at h
  ·exact absurd h (by simp)
theorem gcond_ok {ops:Array Oper} {o:Oper} {g:Bool} (h:gcond ops.toList s.e o.guard=some (some g)) (hs:Sat x s F a w):Region.wanted o (yielded ops a.tmps)=g:=by
 unfold gcond at h
 split at h
 ·simp at h
 ·rename_i j want hg
  simp only[Region.wanted,hg,yielded]
  split at h
  ·rename_i d hd
   have hd':(ops[j]?).bind (·.dst)=some d:=by simpa using hd
   rw[hd']
   simp only[Option.bind_some]
   split at h
   ·rename_i k v hv
    simp only[Option.map_eq_some_iff,Option.some.injEq] at h
    obtain⟨b,hb,rfl⟩:=h
    obtain⟨hlt,hr⟩:=hs.env d _ hv
    have hget:a.tmps[d]?=some (a.tmps.getD d undef):=by simp[Array.getD,hlt]
    rw[hget]
    cases k
    ·rw[rep_gd_no hr];simp[undef]
    ·rw[rep_vbool hb (rep_gd hr rfl)]
     cases want<;>cases b<;>rfl
   ·rename_i v _ hv
    simp only[Option.map_eq_some_iff,Option.some.injEq] at h
    obtain⟨b,hb,rfl⟩:=h
    obtain⟨hlt,hr⟩:=hs.env d _ hv
    have hget:a.tmps[d]?=some (a.tmps.getD d undef):=by simp[Array.getD,hlt]
    rw[hget,rep_vbool hb hr]
    cases want<;>cases b<;>rfl
   ·exact absurd h (by simp)
  ·exact absurd h (by simp)
def dstsOk (n:Nat) (l:List Oper):Prop:= ∀o,o∈l→ ∀d,o.dst=some d→d<n
theorem vone_cases {q:Bool} {ops:List Oper} {o:Oper} {g:Option Bool} {l:List Prop} {s':S} (h:vone P G q ops s o=some (g,l,s')):
    ∃v,vq P G s o.op=some (v,l)∧(q=true→v.exact.isSome=true∨ ∀c,o.op≠ .call c)∧
      ((o.guard=none∧g=none∧s'={s with e:=s.e.put o.dst v})∨
       ∃b,g=some b∧gcond ops s.e o.guard=some (some b)∧s'={s with e:=s.e.put o.dst (.gd b v)}):=by
  unfold vone at h
  split at h
  · exact absurd h (by simp)
  · rename_i v l0 hv
    split at h
    · exact absurd h (by simp)
    · rename_i hq
      have hqq:q=true→v.exact.isSome=true∨ ∀c,o.op≠ .call c:=by
        intro hq'
        subst hq'
        cases he:v.exact.isSome
        · right
          intro c hc
          rw[he,hc] at hq
          simp at hq
        · exact .inl rfl
      split at h
      · rename_i hg
        simp only[Option.some.injEq,Prod.mk.injEq] at h
        obtain⟨rfl,rfl,rfl⟩:=h
        exact⟨v,hv,hqq, .inl ⟨gcond_none hg,rfl,rfl⟩⟩
      · rename_i b hg
        simp only[Option.some.injEq,Prod.mk.injEq] at h
        obtain⟨rfl,rfl,rfl⟩:=h
        exact⟨v,hv,hqq, .inr ⟨b,rfl,hg,rfl⟩⟩
      · exact absurd h (by simp)
theorem addL_ok {l l':List Prop} {o:Option (List Prop×S)} {s':S} (h:addL l o=some (l',s')) (hl:AllP l'): ∃l2,o=some (l2,s')∧AllP l∧AllP l2:=by
 unfold addL at h
 split at h
 ·obtain⟨rfl,rfl⟩:=some_pair h
  exact⟨_,rfl,fun p hp=>hl p (List.mem_append_left _ hp),fun p hp=>hl p (List.mem_append_right _ hp)⟩
 ·exact absurd h (by simp)
theorem subH_root {e t:List (Nat×Ob)} (h:subH e t): ∀k v,Hroot t k=some v→Hroot e k=some v:=by
 induction t with
 |nil=>intro k v hk;simp[Hroot] at hk
 |cons p r ih=>
  obtain⟨k',v'⟩:=p
  intro k v hk
  simp only[Hroot] at hk
  split at hk
  ·rename_i he;subst he;simp only[Option.some.injEq] at hk;subst hk;exact h.1
  ·exact ih h.2 k v hk
theorem subH_get {e t:List (Nat×Ob)} (h:subH e t): ∀k v,Hget t k=some v→Hget e k=some v:=by
 intro k v hk
 cases k with
 |r k=>exact subH_root h k v hk
 |c k i j=>
  obtain⟨ty,s0,_,_,_,_,_,_,hr,_⟩:=Hget_c hk
  simp only[Hget,hr,subH_root h k _ hr] at hk⊢
  exact hk
theorem keys_root {p:List (Nat×Ob)}: ∀{k:Nat} {o:Ob},Hroot p k=some o→k∈keysH p:=by
 induction p with
 |nil=>intro k o h;simp[Hroot] at h
 |cons q r ih=>
  obtain⟨n,v⟩:=q
  intro k o h
  simp only[Hroot] at h
  split at h
  ·rename_i e;subst e;exact List.mem_cons_self ..
  ·exact List.mem_cons_of_mem _ (ih h)
theorem root_keys {p:List (Nat×Ob)}: ∀{k:Nat},k∈keysH p→ ∃o,Hroot p k=some o:=by
 induction p with
 |nil=>intro k h;cases h
 |cons q r ih=>
  obtain⟨n,v⟩:=q
  intro k h
  by_cases e:n=k
  ·exact⟨v,by simp only[Hroot,if_pos e]⟩
  ·rcases List.mem_cons.1 h with rfl|h
   ·exact absurd rfl e
   ·obtain⟨o,ho⟩:=ih h
    exact⟨o,by simp only[Hroot,if_neg e];exact ho⟩
theorem rowsH_get {p:List (Nat×Ob)} (h:rowsH p=true) (m:Nm) (o:Ob) (hm:Hget p m=some o): ∃ty v,o= .row ty v:=by
 have hroot: ∀{p:List (Nat×Ob)},rowsH p=true→ ∀{k:Nat} {o:Ob},Hroot p k=some o→ ∃ty v,o= .row ty v:=by
  intro p
  induction p with
  |nil=>intro _ k o h;cases h
  |cons q r ih=>
   obtain⟨n,v⟩:=q
   intro h k o hk
   cases v with
   |box ty v=>cases h
   |row ty v=>
    simp only[Hroot] at hk
    split at hk
    ·obtain rfl:=Option.some.inj hk;exact⟨ty,v,rfl⟩
    ·exact ih h hk
 cases m with
 |r k=>exact hroot h hm
 |c k i j=>
  obtain⟨ty,s,sz,n,c,ty',s',q,_,_,_,_,_,rfl⟩:=Hget_c hm
  exact⟨_,_,rfl⟩
theorem keys_get {p:List (Nat×Ob)} {m:Nm} {o:Ob} (h:Hget p m=some o):m.root∈keysH p:=by
 cases m with
 |r k=>exact keys_root h
 |c k i j=>
  obtain⟨_,_,_,_,_,_,_,_,hr,_⟩:=Hget_c h
  exact keys_root hr
theorem Hroot_app {p q:List (Nat×Ob)} {k:Nat}:Hroot (p++q) k=match Hroot p k with|some o=>some o|none=>Hroot q k:=by
 induction p with
 |nil=>rfl
 |cons x r ih=>
  obtain⟨n,v⟩:=x
  simp only[List.cons_append,Hroot]
  split
  ·rfl
  ·exact ih
theorem Hget_app {p q:List (Nat×Ob)} {k:Nm} {o:Ob} (h:Hget (p++q) k=some o):Hget p k=some o∨Hget q k=some o:=by
 cases k with
 |r k=>
  simp only[Hget,Hroot_app] at h⊢
  split at h
  ·rename_i o' ho;rw[ho];exact .inl h
  ·exact .inr h
 |c k i j=>
  simp only[Hget,Hroot_app] at h⊢
  split at h
  ·rename_i o' ho;rw[ho];exact .inl h
  ·exact .inr h
theorem Sat.mem {h:List (Nat×Ob)} {ks:List Nat} (hs:Sat x s F a w) (hsub:subH s.h h) (hks: ∀k,k∈ks→k∉keysH h):Mem x.J h s.nx (F.less s.h ks) w:=by
 have h0:=hs.less ks
 have hsub': ∀m o,Hget h m=some o→Hget (HdelK s.h ks) m=some o:=fun m o hm=>Hget_delK_of (subH_get hsub m o hm) fun hk=>hks _ hk (keys_get hm)
 exact⟨h0.flt,h0.nx,fun m o hm=>h0.own m o (hsub' m o hm),fun m m' o o' g hm hm'=>h0.sep m m' o o' g (hsub' m o hm) (hsub' m' o' hm'),h0.wsl,h0.inv⟩
theorem refV_sc {m:Nm} {i j:Nat} {v:V} (h:v.sc=true):(refV m i j v).sc=true:=by
 unfold refV
 split
 ·split
  ·split
   ·rfl
   ·split<;>rfl
  ·rfl
 ·exact h
theorem scO_free {m:Nm} {o:Ob} {G:Cx} (h:ObOk w F m o) (hsc:scO o=true) (hO: ∀m b,F.O m=some b→G.O m=some b) (hW: ∀m b,F.W m=some b→G.W m=some b) (hF: ∀b,F.F b→G.F b):ObOk w G m o:=by
 cases o with
 |box ty v=>
  obtain⟨b,cs,u,q1,q2,q3,q4,q5,q6⟩:=h
  refine⟨b,cs,u,hO _ _ q1,q2,q3,q4,fun j hj=>(q5 j hj).free hO hW ?_,hF _ q6⟩
  have hv:v.sc=true:=hsc
  cases v with
  |st l=>
   simp only[V.sc,scL_all] at hv
   show(l.getD j .any).sc=true
   exact List.all_eq_true.1 hv _ (by have hj':j<l.length:=hj;simp[List.getD_eq_getElem?_getD,hj'])
  |_=>exact hv
 |row ty c=>
  obtain⟨y,sz,n,cc,u,xs,q1,q2,q3,q4,q5,q6,q7⟩:=h
  refine⟨y,sz,n,cc,u,xs,hW _ _ q1,q2,q3,q4,fun i hi j hj=>(q5 i hi j hj).free hO hW (refV_sc ?_),q6,fun g hg=>hF _ (q7 g hg)⟩
  cases c with
  |«by» l=>
   obtain⟨rfl,rfl,rfl⟩:1=sz∧l.length=n∧_=cc:=by simpa [V.elems] using q2
   rfl
  |sq sz' d l=>
   simp only[V.elems] at q2
   split at q2
   ·cases q2
   ·obtain⟨rfl,rfl,rfl⟩:sz'=sz∧l.length=n∧_=cc:=by simpa using q2
    have hsc':scL l=true:=hsc
    rw[scL_all] at hsc'
    have h1:(l.getD i d).sc=true:=List.all_eq_true.1 hsc' _ (by simp[List.getD_eq_getElem?_getD,hi])
    show((l.getD i d).cell j).sc=true
    generalize l.getD i d=v at h1
    cases v with
    |st q=>
     simp only[V.sc,scL_all] at h1
     show(q.getD j .any).sc=true
     by_cases hq:j<q.length
     ·exact List.all_eq_true.1 h1 _ (by simp[List.getD_eq_getElem?_getD,hq])
     ·rw[List.getD_eq_getElem?_getD,List.getElem?_eq_none (by omega)];rfl
    |_=>exact h1
  |_=>simp[V.elems] at q2
theorem scH_root {h:List (Nat×Ob)} (hh:scH h=true): ∀k o,Hroot h k=some o→scO o=true:=by
 induction h with
 |nil=>intro k o h;simp[Hroot] at h
 |cons p r ih=>
  obtain⟨n,v⟩:=p
  simp only[scH,Bool.and_eq_true] at hh
  intro k o hk
  simp only[Hroot] at hk
  split at hk
  ·simp only[Option.some.injEq] at hk;subst hk;exact hh.1
  ·exact ih hh.2 k o hk
theorem scH_get {h:List (Nat×Ob)} (hh:scH h=true) {m:Nm} {o:Ob} (hm:Hget h m=some o):scO o=true:=by
 cases m with
 |r k=>exact scH_root hh k o hm
 |c k i j=>
  obtain⟨ty,s0,sz,n,c,ty',s',q,hr,he,hi,hj,hc,rfl⟩:=Hget_c hm
  have h1:=scH_root hh k _ hr
  cases s0 with
  |«by» l=>
   obtain⟨rfl,rfl,rfl⟩:1=sz∧l.length=n∧_=c:=by simpa [V.elems] using he
   cases hc
  |sq sz' d l=>
   simp only[V.elems] at he
   split at he
   ·cases he
   ·obtain⟨rfl,rfl,rfl⟩:sz'=sz∧l.length=n∧_=c:=by simpa using he
    have hsc':scL l=true:=h1
    rw[scL_all] at hsc'
    have h2:(l.getD i d).sc=true:=List.all_eq_true.1 hsc' _ (by simp[List.getD_eq_getElem?_getD,hi])
    have hc':(l.getD i d).cell j= .own ty' s' q:=hc
    have h3:(V.own ty' s' q).sc=true:=by
     rw[←hc']
     generalize l.getD i d=v at h2
     cases v with
     |st q=>
      simp only[V.sc,scL_all] at h2
      show(q.getD j .any).sc=true
      by_cases hq:j<q.length
      ·exact List.all_eq_true.1 h2 _ (by simp[List.getD_eq_getElem?_getD,hq])
      ·rw[List.getD_eq_getElem?_getD,List.getElem?_eq_none (by omega)];rfl
     |_=>exact h2
    simp only[V.sc] at h3
    split at h3
    ·rfl
    ·cases h3
  |_=>simp[V.elems] at he
theorem Sat.handed {pre post:List (Nat×Ob)} {ks:List Nat} {nx':Nat} {G:Cx} {d:Option Nat} {res:V} {z:Value} (hs:Sat x s F a w) (hsub:subH s.h pre) (hks: ∀k,k∈ks→k∉keysH pre) (hsc:ks=[]∨(res.sc=true∧scH post=true))
  (hev:Ev (Blk (F.less s.h ks) pre) w w') (hle:Cx.Le w (F.less s.h ks) G) (hkeep: ∀b,(F.less s.h ks).F b→ ¬Blk (F.less s.h ks) pre b→G.F b) (hm:Mem x.J post nx' G w')
  (hown: ∀k ob g,Hget post k=some ob→G.blk k ob=some g→Blk (F.less s.h ks) pre g∨w.heap.size≤g) (hd: ∀k,d=some k→k<x.n) (hz:Rep w' G res z):
  ∃G',Sat x ⟨s.e.put d res,post++HdelK s.h (keysH pre),nx'⟩ G' (a.put d z) w'∧Cx.Le w F G':=by
 have hB: ∀g,Blk (F.less s.h ks) pre g→Blk F pre g:=fun g ⟨k,ob,hk,hg⟩=>⟨k,ob,hk,by cases ob<;>exact hg⟩
 have hB': ∀g,Blk F pre g→Blk (F.less s.h ks) pre g:=fun g ⟨k,ob,hk,hg⟩=>⟨k,ob,hk,by cases ob<;>exact hg⟩
 have hblkF: ∀g,Blk F pre g→F.F g:=fun g ⟨k,ob,hk,hg⟩=>blk_F hs (subH_get hsub k ob hk) hg
 let Lent:Nat→Prop:=fun b=> ∃m ob,m.root∈ks∧Hget s.h m=some ob∧F.blk m ob=some b
 have hlentF: ∀b,Lent b→F.F b:=fun b ⟨m,ob,_,h1,h2⟩=>blk_F hs h1 h2
 have hlentB: ∀b,Lent b→ ¬Blk F pre b:=fun b ⟨m,ob,hm,h1,h2⟩ ⟨m',ob',h3,h4⟩=>by
  have:=hs.sep m m' ob ob' b h1 (subH_get hsub m' ob' h3) h2 h4
  subst this
  exact hks _ hm (keys_get h3)
 let G':Cx:=⟨fun b=>G.F b∨Lent b,G.O,G.W⟩
 have hF: ∀b,F.F b→ ¬Blk F pre b→G'.F b:=fun b hb hn=>by
  by_cases hl:Lent b
  ·exact .inr hl
  ·exact .inl (hkeep b ⟨hb,hl⟩ fun h=>hn (hB b h))
 have hle':Cx.Le w F G':=⟨fun b hb=>by
  rcases hb with hb|hb
  ·rcases hle.le1 b hb with h|h
   ·exact .inl h.1
   ·exact .inr h
  ·exact .inl (hlentF b hb),hle.le2,hle.le3⟩
 let G1:Cx:=⟨fun b=>F.F b∨G'.F b,G'.O,G'.W⟩
 have hev':Ev (Blk F pre) w w':=⟨hev.os,hev.tape,hev.output,hev.size,fun b hb hn=>hev.block b hb fun h=>hn (hB b h)⟩
 have hr: ∀v y,Rep w F v y→Rep w' G' v y:=fun v y h=>by
  have h1:Rep w G1 v y:=h.le ⟨fun b hb=>hb.elim .inl (hle'.le1 b),hle'.le2,hle'.le3⟩
  have h2:Rep w' G1 v y:=h1.out ⟨hev'.size,fun b hb hn=>hev'.block b hb fun hB=>hn (.inl (hblkF b hB))⟩
  exact h2.le ⟨fun b hb=> .inl (.inr hb),fun _ _ h=>h,fun _ _ h=>h⟩
 have hrest: ∀k ob,Hget (HdelK s.h (keysH pre)) k=some ob→Hget s.h k=some ob∧ ∀g,F.blk k ob=some g→F.F g∧ ¬Blk F pre g:=fun k ob hk=>by
  obtain⟨h1,h2⟩:=Hget_delK hk
  refine⟨h1,fun g hg=>⟨blk_F hs h1 hg,fun⟨k',ob',hk',hg'⟩=> ?_⟩⟩
  have:=hs.sep k k' ob ob' g h1 (subH_get hsub k' ob' hk') hg hg'
  subst this
  exact h2 (keys_get hk')
 have hblk: ∀k ob,Hget s.h k=some ob→G'.blk k ob=F.blk k ob:=fun k ob hk=>by
  have hok:=hs.own k ob hk
  cases ob with
  |box ty v=>obtain⟨b,_,_,h,_⟩:=hok;simp[Cx.blk,h,hle'.le2 k b h]
  |row ty v=>obtain⟨b,_,_,_,_,_,h,_⟩:=hok;simp[Cx.blk,h,hle'.le3 k b h]
 have hnoF: ∀g,x.F g→ ¬Blk F pre g:=fun g hg ⟨k,ob,hk,hb⟩=>hs.own3 k ob g (subH_get hsub k ob hk) hb hg
 have hlent0:ks=[]→ ∀b,¬Lent b:=fun e b ⟨m,ob,hm,_⟩=>by rw[e] at hm;simp at hm
 have hpost: ∀m o,Hget post m=some o→ObOk w' G' m o:=fun m o ho=>by
  have hok:=hm.own m o ho
  rcases hsc with e|⟨_,h⟩
  ·have hl:Cx.Le w' G G':=⟨fun b hb=>hb.elim .inl fun h=>absurd h (hlent0 e b),fun _ _ h=>h,fun _ _ h=>h⟩
   exact hok.keep ⟨Nat.le_refl _,fun _ _ _=>rfl⟩ hl (fun b hb=> .inl hb) fun _ _=>rfl
  ·exact scO_free hok (scH_get h ho) (fun _ _ h=>h) (fun _ _ h=>h) fun b hb=> .inl hb
 have hres:Rep w' G' res z:=by
  rcases hsc with e|⟨h,_⟩
  ·exact hz.le ⟨fun b hb=>hb.elim .inl fun h=>absurd h (hlent0 e b),fun _ _ h=>h,fun _ _ h=>h⟩
  ·exact hz.free (fun _ _ h=>h) (fun _ _ h=>h) h
 refine⟨G',?_,hle'⟩
 refine⟨⟨hev.os.trans hs.ev.os,hev.tape.trans hs.ev.tape,hev.output.trans hs.ev.output,Nat.le_trans hs.ev.size hev.size,fun b hb hX=> ?_⟩,?_,by cases d<;>exact hs.df,by cases d<;>simp[Act.put,hs.sz],fun b hb=>hF b (hs.fold b hb) (hnoF b hb),fun b hb=> ?_,hm.nx,fun k ob hk=> ?_,fun k ob g hk hg=> ?_,fun k ob g hk hg=> ?_,fun k k' ob ob' g hk hk' hg hg'=> ?_,hm.wsl,hs.le.trans hle' hs.ev.size,?_⟩
 ·refine(hev'.block b (Nat.lt_of_lt_of_le hb hs.ev.size) fun⟨k,ob,hk,hg⟩=> ?_).trans (hs.ev.block b hb hX)
  rcases hs.own2 k ob b (subH_get hsub k ob hk) hg with h|h
  ·omega
  ·exact hX h
 ·have henv:EnvOk w' G' s.e a:=fun t v ht=>⟨(hs.env t v ht).1,hr _ _ (hs.env t v ht).2⟩
  exact henv.put (fun k hk=>by rw[hs.sz];exact hd k hk) hres
 ·rcases hb with hb|hb
  ·exact hm.flt b hb
  ·exact Nat.lt_of_lt_of_le (hs.flt b (hlentF b hb)) hev.size
 ·rcases Hget_app hk with h|h
  ·exact hpost k ob h
  ·obtain⟨h1,h2⟩:=hrest k ob h
   have hok:=hs.own k ob h1
   cases ob with
   |box ty v=>
    obtain⟨b,cs,u,q1,q2,q3,q4,q5,q6⟩:=hok
    obtain⟨_,hnb⟩:=h2 b q1
    exact⟨b,cs,u,hle'.le2 k b q1,(hev'.block b (heap_lt q2) hnb).trans q2,q3,q4,fun j hj=>hr _ _ (q5 j hj),hF b q6 hnb⟩
   |row ty v=>
    obtain⟨y,sz,n,c,u,xs,q1,q2,q3,q4,q5,q6,q7⟩:=hok
    refine⟨y,sz,n,c,u,xs,hle'.le3 k y q1,q2,⟨q3.1,?_⟩,q4,fun i hi j hj=>hr _ _ (q5 i hi j hj),q6,fun g hg=>hF g (q7 g hg) (h2 g (by simp[Cx.blk,q1,hg])).2⟩
    rcases q3.2 with h|⟨g,cap,cur,e1,e2,e3,e4⟩
    ·exact .inl h
    ·have:F.blk k (.row ty v)=some g:=by simp[Cx.blk,q1,e1,Value.ownBlock]
     exact .inr ⟨g,cap,cur,e1,e2,(hev'.block g (heap_lt e3) (h2 g this).2).trans e3,e4⟩
 ·rcases Hget_app hk with h|h
  ·rcases hown k ob g h (by cases ob<;>exact hg) with hb|h
   ·obtain⟨k',ob',hk',hg'⟩:=hB g hb
    exact hs.own2 k' ob' g (subH_get hsub k' ob' hk') hg'
   ·exact .inl (Nat.le_trans hs.ev.size h)
  ·obtain⟨h1,h2⟩:=hrest k ob h
   rw[hblk k ob h1] at hg
   exact hs.own2 k ob g h1 hg
 ·rcases Hget_app hk with h|h
  ·rcases hown k ob g h (by cases ob<;>exact hg) with h|h
   ·exact fun hF=>hnoF g hF (hB g h)
   ·exact fun hF=>by have:=hs.flt g (hs.fold g hF);omega
  ·obtain⟨h1,h2⟩:=hrest k ob h
   rw[hblk k ob h1] at hg
   exact hs.own3 k ob g h1 hg
 ·have cross: ∀k k' ob ob',Hget post k=some ob→Hget (HdelK s.h (keysH pre)) k'=some ob'→G'.blk k ob=some g→G'.blk k' ob'=some g→False:=by
   intro k k' ob ob' h h' hg hg'
   obtain⟨h1,h2⟩:=hrest k' ob' h'
   rw[hblk k' ob' h1] at hg'
   obtain⟨h3,h4⟩:=h2 g hg'
   rcases hown k ob g h (by cases ob<;>exact hg) with h|h
   ·exact h4 (hB g h)
   ·have:=hs.flt g h3;omega
  rcases Hget_app hk with h|h
  ·rcases Hget_app hk' with h'|h'
   ·exact hm.sep k k' ob ob' g h h' (by cases ob<;>exact hg) (by cases ob'<;>exact hg')
   ·exact(cross k k' ob ob' h h' hg hg').elim
  ·rcases Hget_app hk' with h'|h'
   ·exact(cross k' k ob' ob h' h hg' hg).elim
   ·obtain⟨h1,_⟩:=hrest k ob h
    obtain⟨h2,_⟩:=hrest k' ob' h'
    rw[hblk k ob h1] at hg;rw[hblk k' ob' h2] at hg'
    exact hs.sep k k' ob ob' g h1 h2 hg hg'
 ·exact x.J.out hs.inv hev.size (fun b hb hn=>hev'.block b hb fun h=>hn (hblkF b h)) hle'.le1
end
end Go.Proofs.YtfengpdaocgcnaaGreatDoor
