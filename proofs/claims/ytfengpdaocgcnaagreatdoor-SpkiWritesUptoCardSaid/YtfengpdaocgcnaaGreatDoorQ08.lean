/- One's own memory: append. One's own memory: append, that it does. -/
import Derived.Test.YtfengpdaocgcnaaGreatDoorQ07
namespace Go.Proofs.YtfengpdaocgcnaaGreatDoor
open Go.RowKit
def isNil:Value→Bool
 | .slice none 0 0=>true
 |_=>false
theorem isNil_ok {x:Value} (h:isNil x=true):x= .slice none 0 0:=by
 unfold isNil at h
 split at h
 ·rfl
 ·cases h
def V.isOwn:V→Bool
 | .own _ _ _=>true
 |_=>false
def V.noOwn:V→Bool
 | .st l=>l.all fun v=> !v.isOwn
 |v=> !v.isOwn
theorem noOwn_cell {v:V} (h:v.noOwn=true) (j:Nat): ∀ty t q,v.cell j≠ .own ty t q:=by
 intro ty t q e
 cases v with
 |st l=>
  have e':l.getD j .any= .own ty t q:=e
  by_cases hj:j<l.length
  ·have h2:=List.all_eq_true.1 h (l.getD j .any) (by simp[List.getD_eq_getElem?_getD,hj])
   rw[e'] at h2;simp[V.isOwn] at h2
  ·simp[List.getD_eq_getElem?_getD,List.getElem?_eq_none (Nat.le_of_not_lt hj)] at e'
 |own _ _ _=>simp[V.noOwn,V.isOwn] at h
 |_=>cases e
theorem refV_cell {m:Nm} {i j k:Nat} {v:V} (h:v.noOwn=true):refV m i j (v.cell k)=v.cell k:=by
 have h1:=noOwn_cell h k
 generalize v.cell k=c at h1⊢
 cases c<;>first|rfl|exact absurd rfl (h1 _ _ _)
def vsrc (h:List (Nat×Ob)) (v:V):Option (List Prop×Option (V×Option Nat)):=
 match v with
 | .val x=>if isNil x=true then some ([],none) else none
 | .ro m=>match Hpk h m with
  |some (l, .row _ c)=>match c with
   | .by b=>some (l,some (.by b,none))
   |c=>match m with
    | .r k=>some (l,some (c,some k))
    | .c _ _ _=>none
  |_=>none
 | .vw m sz a n=>match Hpk h m with
  |some (l, .row _ c)=>match c with
   | .by b=>if sz=1 then some (l,some (.by ((b.drop a).take n),none)) else none
   | .sq sz' d b=>if (sz'=sz∧sz≠0)∧b.all V.noOwn=true then some (l,some (.sq sz d ((b.drop a).take n),none)) else none
   |_=>none
  |_=>none
 |v=>if v.elems.isSome then some ([],some (v,none)) else none
def vdst (h:List (Nat×Ob)) (el:TypeId) (v:V):Option (Option (Nat×V)):=
 match v with
 | .val x=>if isNil x=true then some none else none
 | .ro (.r k)=>match Hroot h k with
  |some (.row ty c)=>if ty=el then some (some (k,c)) else none
  |_=>none
 |_=>none
def V.len (v:V):Nat:=match v.elems with|some (_,n,_)=>n|none=>0
def V.app:V→V→Option V
 | .by l, .by m=>some (.by (l++m))
 | .sq sz d l, .sq sz' _ m=>if sz=sz' then some (.sq sz d (l++m)) else none
 |_,_=>none
def nr1 (h:List (Nat×Ob)) (d v:V):Option (V×List Prop×Option Nat):=
 match d with
 | .own ty s0 _=>match v with
  | .ro (.r k)=>match Hroot h k with
   |some (.row ty' c)=>some (.own ty c none,[ty'=ty],some k)
   |_=>none
  | .vw (.r k) sz a n=>match Hroot h k with
   |some (.row ty' c)=>match c.elems with
    |some (sz',_,_)=>some (.own ty c (some n),[ty'=ty,a=0,sz'=sz],some k)
    |none=>none
   |_=>none
  | .val x=>if isNil x=true then (match s0 with
   | .by _=>some (.own ty (.by []) none,[],none)
   | .sq z d0 _=>if z=0 then none else some (.own ty (.sq z d0 []) none,[],none)
   |_=>none) else none
  |_=>none
 | .by _=>match v with
  | .val x=>if isNil x=true then some (.by [],[],none) else none
  |v=>some (v,[],none)
 | .sq z d0 _=>match v with
  | .val x=>if isNil x=true∧z≠0 then some (.sq z d0 [],[],none) else none
  |v=>some (v,[],none)
 |_=>some (v,[],none)
def nrL (h:List (Nat×Ob)):List V→List V→Option (List V×List Prop×List (Option Nat))
 |[],[]=>some ([],[],[])
 |d::ds,v::vs=>match nr1 h d v with
  |some (u,l,k)=>match nrL h ds vs with
   |some (us,l',ks)=>some (u::us,l++l',k::ks)
   |none=>none
  |none=>none
 |_,_=>none
def nrm (h:List (Nat×Ob)) (d v:V):Option (V×List Prop×List (Option Nat)):=
 match d,v with
 | .st ds, .st vs=>match nrL h ds vs with
  |some (us,l,ks)=>some (.st us,l,ks)
  |none=>none
 | .st _,_=>none
 |_, .st _=>none
 |d,v=>match nr1 h d v with
  |some (u,l,k)=>some (u,l,[k])
  |none=>none
def keyL:List (Option Nat)→List Nat
 |[]=>[]
 |some k::r=>k::keyL r
 |none::r=>keyL r
def neqs (k:Nat):List Nat→List Prop
 |[]=>[]
 |k'::r=>(k≠k')::neqs k r
def diffs:List Nat→List Prop
 |[]=>[]
 |k::r=>neqs k r++diffs r
def apC (h:List (Nat×Ob)) (k:Nat) (c1 c2:V) (k2:Option Nat):Option (V×List Prop×List Nat):=
 match k2 with
 |none=>match c1.app c2 with
  |some c3=>some (c3,[],[k])
  |none=>none
 |some k2=>match c1,c2 with
  | .sq sz d l, .sq sz' _ [v]=>match nrm h d v with
   |some (u,ps,ks)=>if sz=sz'∧v.sto=true∧v.csize=sz∧v.noOwn=true then some (.sq sz d (l++[u]),ps++diffs (k::k2::keyL ks),k::k2::keyL ks) else none
   |none=>none
  |c1,c2=>match c1.app c2 with
   |some c3=>some (c3,[k≠k2],[k,k2])
   |none=>none
def vappend (P:Program) (s:S) (d:Option Nat) (t:TypeId) (p q:V):Option (List Prop×S):=
 match P.underlying t with
 |some (.slice el)=>match rowInfo P el with
  |some (sz,bs)=>if bs=0 then none else match vdst s.h el p,vsrc s.h q with
   |some none,some (l0,none)=>some (l0,{s with e:=s.e.put d (.val (.slice none 0 0))})
   |some (some (k,_)),some (l0,none)=>some (l0,{s with e:=s.e.put d (.ro (.r k))})
   |some none,some (l0,some (c2,k2))=>match c2.elems with
    |some (sz2,m,_)=>if sz2=sz∧noBox s.h k2.toList=true then some (((m:Int)*bs≤140737488355328)::l0,⟨s.e.put d (.ro (.r s.nx)),(s.nx, .row el c2)::HdelK s.h k2.toList,s.nx+1⟩) else none
    |none=>none
   |some (some (k,c1)),some (l0,some (c2,k2))=>match apC s.h k c1 c2 k2 with
    |some (c3,l1,ks)=>match c1.elems with
     |some (sz1,_,_)=>if sz1=sz∧noBox s.h ks=true then some (((c3.len:Int)*bs≤140737488355328)::l0++l1,⟨s.e.put d (.ro (.r s.nx)),(s.nx, .row el c3)::HdelK s.h ks,s.nx+1⟩) else none
     |none=>none
    |none=>none
   |_,_=>none
  |none=>none
 |_=>none
section
variable {P:Program} {x:Fx} {F:Cx} {w w':World} {a:Act} {s:S}
def SrcR (w:World) (F:Cx) (h:List (Nat×Ob)) (c:V) (k2:Option Nat) (sz m:Nat) (cc:Nat→V) (u:Nat→Nat→Value):Prop:=
 match k2 with
 |none=> ∀i,i<m→ ∀j,j<sz→Rep w F ((cc i).cell j) (u i j)
 |some k2=> ∃ty,Hget h (.r k2)=some (.row ty c)∧ ∀i,i<m→ ∀j,j<sz→Rep w F (refV (.r k2) i j ((cc i).cell j)) (u i j)
theorem vsrc_ok (hs:Sat x s F a w) {v c:V} {y:Value} {l:List Prop} {k2:Option Nat} (h:vsrc s.h v=some (l,some (c,k2))) (hl:AllP l) (hv:Rep w F v y):
  ∃(A:Option Addr) (sz m cap b off:Nat) (cc:Nat→V) (u:Nat→Nat→Value),y= .slice A m cap∧c.elems=some (sz,m,cc)∧(0<m→A=some ⟨b,off,none⟩)∧
   (∀i,i<m→ ∀j,j<sz→w.cell? ⟨b,off+(i*sz+j),none⟩=some (u i j)∧(u i j).oneCell'=true)∧
   SrcR w F s.h c k2 sz m cc u:=by
 have row: ∀(m:Nm) (ty:TypeId) (c:V),Hget s.h m=some (.row ty c)→F.W m=some y→ ∃(A:Option Addr) (sz n cap b off:Nat) (cc:Nat→V) (u:Nat→Nat→Value),y= .slice A n cap∧c.elems=some (sz,n,cc)∧(0<n→A=some ⟨b,off,none⟩)∧
   (∀i,i<n→ ∀j,j<sz→w.cell? ⟨b,off+(i*sz+j),none⟩=some (u i j)∧(u i j).oneCell'=true)∧ ∀i,i<n→ ∀j,j<sz→Rep w F (refV m i j ((cc i).cell j)) (u i j):=by
  intro m ty c hk hW
  obtain⟨z,sz,n,cc,u,xs,hW',he,hown,hc,hr,h1,hF⟩:=hs.own m _ hk
  rw[hW] at hW'
  obtain rfl:y=z:=by simpa using hW'
  obtain⟨A,cap,rfl,hcap,hA⟩:=row_val hown
  by_cases hn:0<n
  ·obtain⟨g,rfl⟩:=hA hn
   exact⟨_,sz,n,cap,g,0,cc,u,rfl,he,fun _=>rfl,fun i hi j hj=>⟨by rw[Nat.zero_add];exact row_cell hown (fun _ _=>rfl) (hc i hi j hj),h1 _ (List.mem_of_getElem? (hc i hi j hj))⟩,hr⟩
  ·exact⟨_,sz,n,cap,0,0,cc,u,rfl,he,fun h=>absurd h hn,fun i hi=>by omega,fun i hi=>by omega⟩
 unfold vsrc at h
 split at h
 ·split at h<;>simp at h
 ·rename_i m
  split at h
  ·rename_i l0 ty c' hk
   split at h
   ·rename_i b
    obtain⟨rfl,rfl,rfl⟩:l0=l∧V.by b=c∧none=k2:=by simpa using h
    obtain⟨A,sz,n,cap,b',off,cc,u,q1,q2,q3,q4,q5⟩:=row m ty _ (Hpk_ok hk hl) (rep_ro hv)
    refine⟨A,sz,n,cap,b',off,cc,u,q1,q2,q3,q4,fun i hi j hj=> ?_⟩
    have:=q5 i hi j hj
    obtain⟨rfl,rfl,rfl⟩:1=sz∧b.length=n∧_=cc:=by simpa [V.elems] using q2
    exact this
   ·split at h
    ·rename_i k
     obtain⟨rfl,rfl,rfl⟩:l0=l∧c'=c∧some k=k2:=by simpa using h
     have hg:=Hpk_ok hk hl
     obtain⟨A,sz,n,cap,b',off,cc,u,q1,q2,q3,q4,q5⟩:=row (.r k) ty _ hg (rep_ro hv)
     exact⟨A,sz,n,cap,b',off,cc,u,q1,q2,q3,q4,ty,hg,q5⟩
    ·cases h
  ·cases h
 ·rename_i m sz a' n
  split at h
  ·rename_i l0 ty c' hk
   split at h
   ·rename_i b
    split at h
    ·rename_i hsz
     subst hsz
     obtain⟨rfl,rfl,rfl⟩:l0=l∧V.by ((b.drop a').take n)=c∧none=k2:=by simpa using h
     obtain⟨A,N,cap,B,hW,⟨hn,hNc,hA⟩,hB,rfl⟩:=rep_vw hv
     have hg:=Hpk_ok hk hl
     obtain⟨z,sz,N2,cc,u,xs,hW',he,hown,hc,hr,h1,hF⟩:=hs.own m _ hg
     rw[hW] at hW'
     obtain rfl:_=z:=by simpa using hW'
     obtain⟨rfl,hbl,rfl⟩:1=sz∧b.length=N2∧_=cc:=by simpa [V.elems] using he
     obtain⟨A2,cap2,e2,_⟩:=row_val hown
     obtain⟨rfl,rfl,rfl⟩:A=A2∧N=N2∧cap=cap2:=by simpa using e2
     subst hbl
     have hlen:((b.drop a').take n).length=n:=by simp;omega
     by_cases hn0:0<n
     ·obtain⟨g,rfl⟩:=hA (by omega)
      obtain rfl:=hB (by omega)
      refine⟨_,1,n,cap-a',g,a'*1,fun i=> .val (.int .u8 (byteAt ((b.drop a').take n) i)),fun i j=>u (a'+i) j,rfl,by simp only[V.elems,hlen],fun _=>by rw[Option.map_some,addr_add,Nat.zero_add],fun i hi j hj=> ?_,fun i hi j hj=> ?_⟩
      ·have h2:=hc (a'+i) (by omega) j hj
       have h3:=row_cell hown (fun _ _=>rfl) h2
       refine⟨?_,h1 _ (List.mem_of_getElem? h2)⟩
       rw[show a'*1+(i*1+j)=(a'+i)*1+j from by omega];exact h3
      ·have h2:=hr (a'+i) (by omega) j hj
       have h3:Rep w F (.val (.int .u8 (byteAt b (a'+i)))) (u (a'+i) j):=h2
       show Rep w F (.val (.int .u8 (byteAt ((b.drop a').take n) i))) _
       rw[byteAt_cut _ _ _ _ hi];exact h3
     ·obtain rfl:n=0:=by omega
      exact⟨B,1,0,cap-a',0,0,fun i=> .val (.int .u8 (byteAt ((b.drop a').take 0) i)),fun _ _=>undef,rfl,by simp[V.elems],fun h=>by omega,fun i hi=>by omega,fun i hi=>by omega⟩
    ·cases h
   ·rename_i sz' d b
    split at h
    ·rename_i hsz
     obtain⟨⟨rfl,h0⟩,hno⟩:=hsz
     obtain⟨rfl,rfl,rfl⟩:l0=l∧V.sq sz' d ((b.drop a').take n)=c∧none=k2:=by simpa using h
     obtain⟨A,N,cap,B,hW,⟨hn,hNc,hA⟩,hB,rfl⟩:=rep_vw hv
     have hg:=Hpk_ok hk hl
     obtain⟨z,sz,N2,cc,u,xs,hW',he,hown,hc,hr,h1,hF⟩:=hs.own m _ hg
     rw[hW] at hW'
     obtain rfl:_=z:=by simpa using hW'
     obtain⟨rfl,hbl,rfl⟩:sz'=sz∧b.length=N2∧_=cc:=by simpa [V.elems,h0] using he
     obtain⟨A2,cap2,e2,_⟩:=row_val hown
     obtain⟨rfl,rfl,rfl⟩:A=A2∧N=N2∧cap=cap2:=by simpa using e2
     subst hbl
     have hlen:((b.drop a').take n).length=n:=by simp;omega
     have hpiece: ∀i,i<n→((b.drop a').take n).getD i d=b.getD (a'+i) d:=fun i hi=>by
      rw[List.getD_eq_getElem?_getD,List.getD_eq_getElem?_getD,List.getElem?_take_of_lt hi,List.getElem?_drop]
     by_cases hn0:0<n
     ·obtain⟨g,rfl⟩:=hA (by omega)
      have hacap:a'<cap:=by omega
      obtain rfl:=hB hacap
      refine⟨_,sz',n,cap-a',g,a'*sz',fun i=>((b.drop a').take n).getD i d,fun i j=>u (a'+i) j,rfl,by simp only[V.elems,hlen,if_neg h0],fun _=>by rw[Option.map_some,addr_add,Nat.zero_add],fun i hi j hj=> ?_,fun i hi j hj=> ?_⟩
      ·have h2:=hc (a'+i) (by omega) j hj
       have h3:=row_cell hown (fun _ _=>rfl) h2
       refine⟨?_,h1 _ (List.mem_of_getElem? h2)⟩
       rw[show a'*sz'+(i*sz'+j)=(a'+i)*sz'+j from by rw[Nat.add_mul];omega];exact h3
      ·have h2:Rep w F (refV m (a'+i) j ((b.getD (a'+i) d).cell j)) (u (a'+i) j):=by
        rw[List.getD_eq_getElem?_getD]
        exact hr (a'+i) (by omega) j hj
       have hi':a'+i<b.length:=by omega
       have hno':(b.getD (a'+i) d).noOwn=true:=by
        rw[List.getD_eq_getElem?_getD,List.getElem?_eq_getElem hi']
        exact List.all_eq_true.1 hno _ (List.getElem_mem hi')
       rw[refV_cell hno'] at h2
       show Rep w F ((((b.drop a').take n).getD i d).cell j) _
       rw[hpiece i hi];exact h2
     ·obtain rfl:n=0:=by omega
      exact⟨B,sz',0,cap-a',0,0,fun i=>((b.drop a').take 0).getD i d,fun _ _=>undef,rfl,by simp[V.elems,h0],fun h=>by omega,fun i hi=>by omega,fun i hi=>by omega⟩
    ·cases h
   ·cases h
  ·cases h
 ·split at h
  ·rename_i hsome
   obtain⟨rfl,rfl,rfl⟩:[]=l∧_=c∧none=k2:=by simpa using h
   obtain⟨q,hq⟩:=Option.isSome_iff_exists.1 hsome
   obtain⟨sz,n,cc⟩:=q
   obtain⟨A,cap,b,off,u,rfl,hcap,hA,hc,hr⟩:=rep_sl hq hv
   exact⟨A,sz,n,cap,b,off,cc,u,rfl,hq,fun h=>(hA h).1,hc,hr⟩
  ·cases h
theorem vsrc_nil {v:V} {h:List (Nat×Ob)} {l:List Prop} (hh:vsrc h v=some (l,none)):v= .val (.slice none 0 0)∧l=[]:=by
 unfold vsrc at hh
 split at hh
 ·split at hh
  ·rename_i hn
   rw[isNil_ok hn]
   exact⟨rfl,by simpa using hh.symm⟩
  ·cases hh
 ·split at hh
  ·split at hh
   ·simp at hh
   ·split at hh<;>simp at hh
  ·cases hh
 ·split at hh
  ·split at hh
   ·split at hh<;>simp at hh
   ·split at hh<;>simp at hh
   ·cases hh
  ·cases hh
 ·split at hh<;>simp at hh
theorem vdst_nil {v:V} {h:List (Nat×Ob)} {el:TypeId} (hh:vdst h el v=some none):v= .val (.slice none 0 0):=by
 unfold vdst at hh
 split at hh
 ·split at hh
  ·rename_i hn;rw[isNil_ok hn]
  ·cases hh
 ·split at hh
  ·split at hh<;>simp at hh
  ·cases hh
 ·cases hh
theorem vdst_row {v:V} {h:List (Nat×Ob)} {el:TypeId} {k:Nat} {c:V} (hh:vdst h el v=some (some (k,c))):v= .ro (.r k)∧Hget h (.r k)=some (.row el c):=by
 unfold vdst at hh
 split at hh
 ·split at hh<;>simp at hh
 ·split at hh
  ·rename_i ty c' hk
   split at hh
   ·rename_i he
    subst he
    obtain⟨rfl,rfl⟩:_=k∧c'=c:=by simpa using hh
    exact⟨rfl,hk⟩
   ·cases hh
  ·cases hh
 ·cases hh
theorem append_run {t ty el:TypeId} {sz bs n m cap b off:Nat} {v:Value} {xs:List Value} {A:Option Addr} {u:Nat→Nat→Value}
    (ht:P.underlying t=some (.slice el)) (hri:rowInfo P el=some (sz,bs)) (hown:w.ownsRow 0 el sz v n xs) (hA:0<m→A=some ⟨b,off,none⟩)
    (hc: ∀i,i<m→ ∀j,j<sz→w.cell? ⟨b,off+(i*sz+j),none⟩=some (u i j)∧(u i j).oneCell'=true) (hb':(n+m)*bs≤140737488355328) (hbp:0<bs):
    ∃v' w' news,(Builtin.append_ #[t,t] ty #[v, .slice A m cap]).run P w= .ok v' w'∧w'.ownsRow 0 el sz v' (n+m) (xs++news)∧w.grownBy w' v.ownBlock∧(v'.ownBlock=v.ownBlock∨v'.ownBlock=some w.heap.size)∧
      news.length=m*sz∧(∀i,i<m→ ∀j,j<sz→news[i*sz+j]?=some (u i j))∧ ∀y∈news,y.oneCell'=true:=by
  obtain⟨i,z,hi,hz,hsz,hby,hzs,hszp⟩:=rowInfo_ok hri
  have hnm:n+m≤140737488355328:=Nat.le_trans (Nat.le_mul_of_pos_right _ hbp) hb'
  by_cases hm:0<m
  · obtain rfl:=hA hm
    let news:=(List.range (m*sz)).map fun k=>u (k/sz) (k%sz)
    have hdiv: ∀i,i<m→ ∀j,j<sz→i*sz+j<m*sz∧(i*sz+j)/sz=i∧(i*sz+j)%sz=j:=fun i hi j hj=>
      ⟨by have:(i+1)*sz≤m*sz:=Nat.mul_le_mul_right _ hi
          rw[Nat.add_mul] at this;omega,
       by rw[Nat.add_comm,Nat.add_mul_div_right _ _ hszp,Nat.div_eq_of_lt hj];omega,
       by rw[Nat.add_comm,Nat.add_mul_mod_self_right];exact Nat.mod_eq_of_lt hj⟩
    have hnews: ∀k y,news[k]?=some y→w.cell? ((⟨b,off,none⟩:Addr).add k)=some y∧y.oneCell'=true:=by
      intro k y hk
      have hlt:k<m*sz:=by have:=(List.getElem?_eq_some_iff.1 hk).1;simpa [news] using this
      have hy:u (k/sz) (k%sz)=y:=by simpa [news,hlt] using hk
      subst hy
      have h1:k/sz<m:=Nat.div_lt_of_lt_mul (by rw[Nat.mul_comm];exact hlt)
      have h2:k%sz<sz:=Nat.mod_lt _ hszp
      have h3:k/sz*sz+k%sz=k:=by rw[Nat.mul_comm];exact Nat.div_add_mod k sz
      have:=hc _ h1 _ h2
      rw[h3] at this
      rw[addr_add];exact this
    have hone: ∀y∈news,y.oneCell'=true:=fun y hy=>by
      obtain⟨k,hk,rfl⟩:=List.getElem_of_mem hy
      exact(hnews k _ (List.getElem?_eq_getElem hk)).2
    obtain⟨v',w',h1,h2,h3,_,h5⟩:=run_append_own_at (P:=P) w 0 t ty el i z sz bs ht hi hz hsz hby hzs hszp v n xs hown ⟨b,off,none⟩ m cap news (by simp[news]) (fun j y hy=>(hnews j y hy).1) hone (by unfold maxLen;omega) hb' (Nat.zero_le _)
    refine⟨v',w',news,h1,h2,h3,h5,by simp[news],fun i hi j hj=> ?_,hone⟩
    obtain⟨q1,q2,q3⟩:=hdiv i hi j hj
    simp[news,q1,q2,q3]
  · obtain rfl:m=0:=by omega
    refine⟨v,w,[],?_,by simpa using hown,⟨rfl,rfl,rfl,Nat.le_refl _,fun _ _ _=>rfl⟩, .inl rfl,by simp,fun i hi=>by omega,fun y hy=>by simp at hy⟩
    obtain⟨A',cap',rfl,hcap,hAA⟩:=row_val hown
    cases A with
    |none=>cases A'<;>simp[Builtin.append_,run_underlying ht,sizeOf,typeInfo,hi,Builtin.lenOf,Builtin.firstCells,hcap,storeCells]
    |some q=>cases A'<;>simp[Builtin.append_,run_underlying ht,sizeOf,typeInfo,hi,Builtin.lenOf,Builtin.firstCells,hcap,storeCells,loadCells,loadCellsFrom]
theorem int_le {n b:Nat} (h:(n:Int)*(b:Int)≤140737488355328):n*b≤140737488355328:=by
 rw[←Int.natCast_mul] at h;omega
theorem app_ok {p q r:V} {sz sz' n m:Nat} {c c':Nat→V} (h:p.app q=some r) (hp:p.elems=some (sz,n,c)) (hq:q.elems=some (sz',m,c')):
  sz=sz'∧ ∃c2,r.elems=some (sz,n+m,c2)∧(∀i,i<n→c2 i=c i)∧ ∀i,i<m→c2 (n+i)=c' i:=by
 unfold V.app at h
 split at h
 ·obtain rfl:_=r:=by simpa using h
  obtain⟨rfl,rfl,rfl⟩:1=sz∧_=n∧_=c:=by simpa [V.elems] using hp
  obtain⟨rfl,rfl,rfl⟩:1=sz'∧_=m∧_=c':=by simpa [V.elems] using hq
  refine⟨rfl,_,by rw[←List.length_append];rfl,fun i hi=> ?_,fun i hi=> ?_⟩
  ·simp only[byteAt,List.getD_eq_getElem?_getD,List.getElem?_append_left hi]
  ·simp only[byteAt,List.getD_eq_getElem?_getD,List.getElem?_append_right (Nat.le_add_right _ i),Nat.add_sub_cancel_left]
 ·split at h
  ·rename_i d1 l1 _ d2 l2 hsz
   subst hsz
   obtain rfl:_=r:=by simpa using h
   simp only[V.elems] at hp hq
   split at hp
   ·cases hp
   ·rename_i hz
    rw[if_neg hz] at hq
    obtain⟨rfl,rfl,rfl⟩:_=sz∧_=n∧_=c:=by simpa using hp
    obtain⟨rfl,rfl,rfl⟩:_=sz'∧_=m∧_=c':=by simpa using hq
    refine⟨rfl,fun i=>(l1++l2).getD i d1,by simp only[V.elems,if_neg hz,List.length_append],fun i hi=> ?_,fun i hi=> ?_⟩
    ·simp only[List.getD_eq_getElem?_getD,List.getElem?_append_left hi]
    ·show(l1++l2).getD (l1.length+i) d1=l2.getD i d2
     rw[List.getD_eq_getElem?_getD,List.getD_eq_getElem?_getD,List.getElem?_append_right (Nat.le_add_right _ i),Nat.add_sub_cancel_left,List.getElem?_eq_getElem hi]
     rfl
  ·cases h
 ·cases h
end
section
variable {P:Program} {x:Fx} {F:Cx} {w w':World} {a:Act} {s:S}
theorem refV_own (k i j:Nat) (ty:TypeId) (t:V) (q:Option Nat):refV (.r k) i j (.own ty t q)=ownR (.c k i j) t q:=by
 cases q<;>rfl
theorem refV_not {m:Nm} {i j:Nat} {v:V} (h: ∀ty t q,v≠ .own ty t q):refV m i j v=v:=by
 unfold refV
 split
 ·exact absurd rfl (h _ _ _)
 ·rfl
def NrOk (w:World) (F:Cx) (h:List (Nat×Ob)) (u:V) (k:Option Nat) (y:Value):Prop:=
 ((∀ty t q,u≠ .own ty t q)∧Rep w F u y)∨
 ∃ty t q,u= .own ty t q∧((∃k',k=some k'∧Hget h (.r k')=some (.row ty t)∧Rep w F (ownR (.r k') t q) y)∨(k=none∧q=none∧y= .slice none 0 0∧ ∃z f,t.elems=some (z,0,f)))
theorem rep_not_own {v:V} {y:Value} (h:Rep w F v y): ∀ty t q,v≠ .own ty t q:=fun ty t q e=>by subst e;exact rep_own h
theorem rep_empty (sz:Nat) (d:V) (hz:sz≠0):Rep w F (.sq sz d []) (.slice none 0 0):=
 .sl _ sz 0 (fun i=>([]:List V).getD i d) none 0 0 0 (fun _ _=>undef) (by simp only[V.elems,if_neg hz,List.length_nil]) (Nat.le_refl _) (fun h=>by omega) (fun i hi=>by omega) (fun i hi=>by omega)
theorem nr1_ok {d v u:V} {l:List Prop} {k:Option Nat} {y:Value} (h:nr1 s.h d v=some (u,l,k)) (hl:AllP l) (hv:Rep w F v y) (hvs: ∀l,v≠ .st l):NrOk w F s.h u k y∧ ∀j,u.cell j=u:=by
 have plain: ∀u,v=u→NrOk w F s.h u none y∧ ∀j,u.cell j=u:=fun u e=>by
  subst e
  refine⟨.inl ⟨rep_not_own hv,hv⟩,fun j=> ?_⟩
  cases v<;>first|rfl|exact absurd rfl (hvs _)
 unfold nr1 at h
 split at h
 ·rename_i ty s0 q0
  split at h
  ·rename_i k0
   split at h
   ·rename_i ty' c hk
    simp only[Option.some.injEq,Prod.mk.injEq] at h;obtain⟨rfl,rfl,rfl⟩:=h
    have e:ty'=ty:=hl _ (by simp)
    subst e
    exact⟨.inr ⟨_,_,_,rfl, .inl ⟨k0,rfl,hk,hv⟩⟩,fun j=>rfl⟩
   ·cases h
  ·rename_i k0 sz a' n
   split at h
   ·rename_i ty' c hk
    split at h
    ·rename_i sz' _ _ he
     simp only[Option.some.injEq,Prod.mk.injEq] at h;obtain⟨rfl,rfl,rfl⟩:=h
     have e:ty'=ty:=hl _ (by simp)
     have e2:a'=0:=hl _ (by simp)
     have e3:sz'=sz:=hl _ (by simp)
     subst e e2 e3
     refine⟨.inr ⟨_,_,_,rfl, .inl ⟨k0,rfl,hk,?_⟩⟩,fun j=>rfl⟩
     simp only[ownR,he];exact hv
    ·cases h
   ·cases h
  ·rename_i x0
   split at h
   ·rename_i hn
    obtain rfl:=rep_val hv
    rw[isNil_ok hn]
    split at h
    ·simp only[Option.some.injEq,Prod.mk.injEq] at h;obtain⟨rfl,rfl,rfl⟩:=h
     exact⟨.inr ⟨_,_,_,rfl, .inr ⟨rfl,rfl,rfl,1,_,rfl⟩⟩,fun j=>rfl⟩
    ·split at h
     ·cases h
     ·rename_i hz
      simp only[Option.some.injEq,Prod.mk.injEq] at h;obtain⟨rfl,rfl,rfl⟩:=h
      exact⟨.inr ⟨_,_,_,rfl, .inr ⟨rfl,rfl,rfl,_,_,by simp only[V.elems,if_neg hz];rfl⟩⟩,fun j=>rfl⟩
    ·cases h
   ·cases h
  ·cases h
 ·split at h
  ·split at h
   ·rename_i hn
    simp only[Option.some.injEq,Prod.mk.injEq] at h;obtain⟨rfl,rfl,rfl⟩:=h
    obtain rfl:=rep_val hv
    rw[isNil_ok hn]
    exact⟨.inl ⟨fun _ _ _ e=>(by cases e), .sl _ 1 0 _ none 0 0 0 (fun _ _=>undef) rfl (Nat.le_refl _) (fun h=>by omega) (fun i hi=>by omega) (fun i hi=>by omega)⟩,fun j=>rfl⟩
   ·cases h
  ·simp only[Option.some.injEq,Prod.mk.injEq] at h;obtain⟨rfl,rfl,rfl⟩:=h
   exact plain _ rfl
 ·rename_i z d0 _
  split at h
  ·split at h
   ·rename_i hn
    simp only[Option.some.injEq,Prod.mk.injEq] at h;obtain⟨rfl,rfl,rfl⟩:=h
    obtain rfl:=rep_val hv
    rw[isNil_ok hn.1]
    exact⟨.inl ⟨fun _ _ _ e=>(by cases e),rep_empty z d0 hn.2⟩,fun j=>rfl⟩
   ·cases h
  ·simp only[Option.some.injEq,Prod.mk.injEq] at h;obtain⟨rfl,rfl,rfl⟩:=h
   exact plain _ rfl
 ·simp only[Option.some.injEq,Prod.mk.injEq] at h;obtain⟨rfl,rfl,rfl⟩:=h
  exact plain _ rfl
theorem nrL_ok: ∀{ds vs us:List V} {l:List Prop} {ks:List (Option Nat)} {y:Nat→Value},nrL s.h ds vs=some (us,l,ks)→AllP l→(∀j,j<vs.length→Rep w F (vs.getD j .any) (y j))→(∀v∈vs,∀l,v≠ .st l)→
  us.length=vs.length∧ks.length=vs.length∧ ∀j,j<vs.length→NrOk w F s.h (us.getD j .any) (ks.getD j none) (y j)
 |[],[],us,l,ks,y,h,hl,hr,hst=>by
  simp only[nrL,Option.some.injEq,Prod.mk.injEq] at h;obtain⟨rfl,rfl,rfl⟩:=h
  exact⟨rfl,rfl,fun j hj=>by simp at hj⟩
 |d::ds,v::vs,us,l,ks,y,h,hl,hr,hst=>by
  simp only[nrL] at h
  split at h
  ·rename_i u l1 k h1
   split at h
   ·rename_i us' l2 ks' h2
    simp only[Option.some.injEq,Prod.mk.injEq] at h;obtain⟨rfl,rfl,rfl⟩:=h
    obtain⟨hl1,hl2⟩:=allP_app hl
    obtain⟨q1,q2,q3⟩:=nrL_ok (y:=fun j=>y (j+1)) h2 hl2 (fun j hj=>by have:=hr (j+1) (by simpa using hj);simpa using this) (fun v hv=>hst v (List.mem_cons_of_mem _ hv))
    refine⟨by simp[q1],by simp[q2],fun j hj=> ?_⟩
    cases j with
    |zero=>
     have:=(nr1_ok (s:=s) h1 hl1 (y:=y 0) (by have:=hr 0 (by simp);simpa using this) (hst v (List.mem_cons_self ..))).1
     simpa using this
    |succ j=>
     have:=q3 j (by simpa using hj)
     simpa using this
   ·cases h
  ·cases h
 |[],v::vs,us,l,ks,y,h,hl,hr,hst=>by simp[nrL] at h
 |d::ds,[],us,l,ks,y,h,hl,hr,hst=>by simp[nrL] at h
theorem nrm_ok {d v u:V} {l:List Prop} {ks:List (Option Nat)} {y:Nat→Value} (h:nrm s.h d v=some (u,l,ks)) (hl:AllP l) (hr: ∀j,j<v.csize→Rep w F (v.cell j) (y j)) (hf: ∀l,v= .st l→ ∀q∈l,∀l',q≠ .st l'):
  ∀j,j<v.csize→NrOk w F s.h (u.cell j) (ks.getD j none) (y j):=by
 unfold nrm at h
 split at h
 ·rename_i ds vs
  split at h
  ·rename_i us l' ks' h1
   simp only[Option.some.injEq,Prod.mk.injEq] at h;obtain⟨rfl,rfl,rfl⟩:=h
   obtain⟨q1,q2,q3⟩:=nrL_ok (y:=y) h1 hl (fun j hj=>hr j hj) (fun v hv=>hf vs rfl v hv)
   exact fun j hj=>q3 j hj
  ·cases h
 ·cases h
 ·cases h
 ·rename_i hn1 hn2 hn3
  split at h
  ·rename_i u' l' k h1
   simp only[Option.some.injEq,Prod.mk.injEq] at h;obtain⟨rfl,rfl,rfl⟩:=h
   have hvs: ∀l,v≠ .st l:=fun l e=>by
    exact hn2 l e
   have hcz:v.csize=1∧v.cell 0=v:=by cases v<;>first|exact⟨rfl,rfl⟩|exact absurd rfl (hvs _)
   intro j hj
   obtain rfl:j=0:=by omega
   have h2:=hr 0 hj
   rw[hcz.2] at h2
   obtain⟨q1,q2⟩:=nr1_ok (s:=s) h1 hl h2 hvs
   rw[q2 0];exact q1
  ·cases h
theorem keyL_mem: ∀{ks:List (Option Nat)} {j k:Nat},ks.getD j none=some k→k∈keyL ks
 |[],j,k,h=>by simp at h
 |none::r,0,k,h=>by simp at h
 |some k0::r,0,k,h=>by simp only[List.getD_cons_zero,Option.some.injEq] at h;subst h;exact List.mem_cons_self ..
 |none::r,j+1,k,h=>by simp only[List.getD_cons_succ] at h;exact keyL_mem (ks:=r) h
 |some k0::r,j+1,k,h=>by simp only[List.getD_cons_succ] at h;exact List.mem_cons_of_mem _ (keyL_mem (ks:=r) h)
theorem neqs_ok: ∀{ks:List Nat} {k:Nat},AllP (neqs k ks)→ ∀k',k'∈ks→k≠k'
 |[],_,_,k',h=>by simp at h
 |k1::r,k,hl,k',h=>by
  rcases List.mem_cons.1 h with rfl|h
  ·exact allP_head hl
  ·exact neqs_ok (ks:=r) (allP_tail hl) k' h
theorem keyL_inj: ∀{ks:List (Option Nat)},AllP (diffs (keyL ks))→ ∀{i j k:Nat},ks.getD i none=some k→ks.getD j none=some k→i=j
 |[],_,i,j,k,h,_=>by simp at h
 |none::r,hl,i,j,k,h1,h2=>by
  cases i with
  |zero=>simp at h1
  |succ i=>
   cases j with
   |zero=>simp at h2
   |succ j=>
    simp only[List.getD_cons_succ] at h1 h2
    rw[keyL_inj (ks:=r) hl h1 h2]
 |some k0::r,hl,i,j,k,h1,h2=>by
  obtain⟨ha,hb⟩:=allP_app (l:=neqs k0 (keyL r)) hl
  cases i with
  |zero=>
   simp only[List.getD_cons_zero,Option.some.injEq] at h1
   subst h1
   cases j with
   |zero=>rfl
   |succ j=>
    simp only[List.getD_cons_succ] at h2
    exact absurd rfl (neqs_ok ha _ (keyL_mem h2))
  |succ i=>
   simp only[List.getD_cons_succ] at h1
   cases j with
   |zero=>
    simp only[List.getD_cons_zero,Option.some.injEq] at h2
    subst h2
    exact absurd rfl (neqs_ok ha _ (keyL_mem h1))
   |succ j=>
    simp only[List.getD_cons_succ] at h2
    rw[keyL_inj (ks:=r) hb h1 h2]
theorem own_cell {k:Nat} {ty:TypeId} {c:V} {sz n:Nat} {cc:Nat→V} {u:Nat→Nat→Value} (hk:Hget s.h (.r k)=some (.row ty c)) (he:c.elems=some (sz,n,cc)) (hr: ∀i,i<n→ ∀j,j<sz→Rep w F (refV (.r k) i j ((cc i).cell j)) (u i j)) {i j:Nat} (hi:i<n) (hj:j<sz):
  ((∀ty t q,(cc i).cell j≠ .own ty t q)→Rep w F ((cc i).cell j) (u i j))∧ ∀ty t q,(cc i).cell j= .own ty t q→Hget s.h (.c k i j)=some (.row ty t)∧Rep w F (ownR (.c k i j) t q) (u i j):=by
 have h:=hr i hi j hj
 refine⟨fun hn=>by rw[refV_not hn] at h;exact h,fun ty t q e=> ?_⟩
 rw[e,refV_own] at h
 refine⟨?_,h⟩
 simp only[Hget] at hk⊢
 simp only[hk,Hchild,he,e,if_pos (And.intro hi hj)]
end
end Go.Proofs.YtfengpdaocgcnaaGreatDoor
