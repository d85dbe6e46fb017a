/- Generator: cells copied into a row of one's own. -/
import Derived.Test.YtfengpdaocgcnaaGreatDoorQ09
import Derived.Lib.SliceRun
namespace Go.Proofs.YtfengpdaocgcnaaGreatDoor
open Go.RowKit
set_option linter.unusedSimpArgs false
set_option maxRecDepth 100000
def cdst:V→Option (Nat×Nat×Option Nat)
 | .ro (.r k)=>some (k,0,none)
 | .vw (.r k) sz a n=>if sz=1 then some (k,a,some n) else none
 |_=>none
def cpN:Option Nat→Nat→Nat→Nat
 |none,L,m=>Nat.min m L
 |some n,_,m=>Nat.min m n
def cpV (c:V) (a:Nat) (m:Option Nat) (q:V):Option (Nat×V):=
 match c with
 | .sq sz dd l=>match q with
  | .sq sz2 _ l2=>if sz=1∧sz2=1 then some (cpN m l.length l2.length, .sq 1 dd (setMany l a (l2.take (cpN m l.length l2.length)))) else none
  |_=>none
 | .by l=>match q with
  | .by l2=>some (cpN m l.length l2.length, .by (setMany l a (l2.take (cpN m l.length l2.length))))
  |_=>none
 |_=>none
def vcopy (P:Program) (s:S) (d:Option Nat) (t:TypeId) (p q:V):Option (List Prop×S):=
 match P.underlying t with
 |some (.slice el)=>match rowInfo P el with
  |some (sz,_)=>match cdst p with
   |some (k,a,m)=>match Hroot s.h k with
    |some (.row ty c)=>match cpV c a m q with
     |some (n,c')=>if sz=1 then some ([],⟨s.e.put d (.i n),(k, .row ty c')::s.h,s.nx⟩) else none
     |none=>none
    |_=>none
   |none=>none
  |none=>none
 |_=>none
section
variable {P:Program} {x:Fx} {F:Cx} {w w':World} {a:Act} {s:S}
theorem addr_at0 (g o i:Nat):(⟨g,o,none⟩:Addr).add i=⟨g,o+i,none⟩:=by unfold Addr.add;split<;>simp_all
theorem Hget_congr {h h':List (Nat×Ob)} (e: ∀k,Hroot h' k=Hroot h k) (m:Nm):Hget h' m=Hget h m:=by cases m<;>simp only[Hget,e]
theorem Sat.heq (hs:Sat x s F a w) {h':List (Nat×Ob)} (e: ∀k,Hroot h' k=Hroot s.h k):Sat x {s with h:=h'} F a w:=by
 have e:=Hget_congr e
 exact⟨hs.ev,hs.env,hs.df,hs.sz,hs.fold,hs.flt,hs.nx,fun m o hm=>hs.own m o ((e m)▸hm),fun m o g h1 h2=>hs.own2 m o g ((e m)▸h1) h2,fun m o g h1 h2=>hs.own3 m o g ((e m)▸h1) h2,fun k1 k2 o1 o2 g h1 h2 e1 e2=>hs.sep k1 k2 o1 o2 g ((e k1)▸h1) ((e k2)▸h2) e1 e2,hs.wsl,hs.le,hs.inv⟩
theorem by_elems (l:List UInt8):(V.by l).elems=some (1,l.length,fun i=> .val (.int .u8 (byteAt l i))):=rfl
theorem cpV_ok {c q c':V} {a n:Nat} {m:Option Nat} (h:cpV c a m q=some (n,c')): ∃N M f g,c.elems=some (1,N,f)∧q.elems=some (1,M,g)∧n=cpN m N M∧(n=0→c'=c)∧(n≤M→a+n≤N→ ∃f',c'.elems=some (1,N,f')∧ ∀i,i<N→f' i=if a≤i∧i<a+n then g (i-a) else f i):=by
 unfold cpV at h
 split at h
 ·rename_i sz dd L
  split at h
  ·rename_i sz2 d2 L2
   split at h
   ·rename_i hcc
    obtain⟨rfl,rfl⟩:=hcc
    obtain⟨rfl,rfl⟩:=some_pair h
    refine⟨L.length,L2.length,fun i=>L.getD i dd,fun i=>L2.getD i d2,rfl,rfl,rfl,fun h0=>by rw[h0];simp[setMany],fun h1 h2=>⟨fun i=>(setMany L a (L2.take (cpN m L.length L2.length))).getD i dd,by simp[V.elems,setMany_length],fun i hi=> ?_⟩⟩
    have hl:(L2.take (cpN m L.length L2.length)).length=cpN m L.length L2.length:=by rw[List.length_take];omega
    simp only
    rw[List.getD_eq_getElem?_getD,setMany_get _ _ _ _ (by omega),hl]
    split
    ·rw[List.getElem?_take,if_pos (by omega),List.getD_eq_getElem?_getD,List.getElem?_eq_getElem (by omega)];rfl
    ·rw[List.getD_eq_getElem?_getD]
   ·cases h
  ·cases h
 ·rename_i l
  split at h
  ·rename_i l2
   obtain⟨rfl,rfl⟩:=some_pair h
   refine⟨_,_,_,_,by_elems l,by_elems l2,rfl,fun h0=>by rw[h0];simp[setMany],fun h1 h2=>⟨_,by rw[by_elems,setMany_length],fun i hi=> ?_⟩⟩
   have hl:(l2.take (cpN m l.length l2.length)).length=cpN m l.length l2.length:=by rw[List.length_take];omega
   simp only[byteAt]
   rw[List.getD_eq_getElem?_getD,setMany_get _ _ _ _ (by omega),hl]
   split
   ·rw[List.getElem?_take,if_pos (by omega),List.getD_eq_getElem?_getD]
   ·rw[List.getD_eq_getElem?_getD]
  ·cases h
 ·cases h
theorem row_set (hs:Sat x s F a w) {k b cap a0 n N:Nat} {ty:TypeId} {c c':V} {f f' g:Nat→V} {v:Nat→Value} {cs:List Value} (hk:Hroot s.h k=some (.row ty c)) (he:c.elems=some (1,N,f)) (he':c'.elems=some (1,N,f'))
  (hf: ∀i,i<N→f' i=if a0≤i∧i<a0+n then g (i-a0) else f i) (hW:F.W (.r k)=some (.slice (some ⟨b,0,none⟩) N cap)) (hcl:cs.length=n) (hn:a0+n≤N) (h0:0<N) (hcs: ∀j,j<n→cs[j]?=some (v j)∧(v j).oneCell'=true∧Rep w F ((g j).cell 0) (v j)):
  Sat x {s with h:=(k, .row ty c')::s.h} F a (w.setCells b a0 cs)∧ ∀js,Stp js s.h ((k, .row ty c')::s.h) F F w (w.setCells b a0 cs):=by
 have hkk:Hget s.h (.r k)=some (.row ty c):=hk
 obtain⟨x1,szr,nr,cc,u,xs,hW2,he2,hown,hcs2,hr,hone,hF⟩:=hs.own (.r k) _ hkk
 rw[he] at he2
 obtain⟨rfl,rfl,rfl⟩:1=szr∧N=nr∧f=cc:=by simpa using he2
 rw[hW] at hW2
 obtain rfl:_=x1:=by simpa using hW2
 obtain⟨hxl,hv⟩:=hown
 rcases hv with ⟨e0,h1⟩|⟨b2,cap2,cur,e1,_,hheap,hncap,hmax,hcsz,htake⟩
 ·omega
 obtain⟨rfl,rfl⟩:b=b2∧cap=cap2:=by simpa using e1
 have hxl:xs.length=N:=by simpa using hxl
 have hcsz:cur.size=cap:=by simpa using hcsz
 have htake:cur.toList.take N=xs:=by simpa using htake
 have hFg:F.F b:=hF b rfl
 have hblk: ∀c,F.blk (.r k) (.row ty c)=some b:=fun c=>by simp[Cx.blk,hW,Value.ownBlock]
 have hw:=Ev.setCells b cs a0 w
 have hout:Out F w (w.setCells b a0 cs):=⟨by rw[setCells_size];exact Nat.le_refl _,fun b' hb hn=>hw.block b' hb fun e=>hn (by rw[e];exact hFg)⟩
 obtain⟨cur',hheap',hcur'⟩:=heap_setCells_at cs a0 w cur hheap
 have hsz':cur'.size=cap:=by
  have:cur'.toList.length=cur.toList.length:=by rw[hcur',setMany_length]
  simp only[Array.length_toList] at this
  omega
 have hob:ObOk (w.setCells b a0 cs) F (.r k) (.row ty c'):=by
  refine⟨_,1,N,f',fun i j=>if a0≤i∧i<a0+n then v (i-a0) else u i j,setMany xs a0 cs,hW,he',⟨by rw[setMany_length];omega, .inr ⟨b,cap,cur',rfl,Nat.zero_le _,hheap',hncap,hmax,by omega,?_⟩⟩,fun i hi j hj=> ?_,fun i hi j hj=> ?_,fun y hy=> ?_,hF⟩
  ·rw[hcur',Nat.mul_one,setMany_take _ _ _ _ (by omega) (by simp;omega),htake]
  ·obtain rfl:j=0:=by omega
   show _=some (if a0≤i∧i<a0+n then v (i-a0) else u i 0)
   rw[setMany_get _ _ _ _ (by omega),hcl,Nat.mul_one,Nat.add_zero]
   split
   ·rename_i hin;exact(hcs _ (by omega)).1
   ·have:=hcs2 i hi 0 (by omega)
    rwa [Nat.mul_one,Nat.add_zero] at this
  ·obtain rfl:j=0:=by omega
   show Rep _ _ (refV (.r k) i 0 ((f' i).cell 0)) (if a0≤i∧i<a0+n then v (i-a0) else u i 0)
   rw[hf i hi]
   split
   ·rename_i hin
    have h5:=(hcs (i-a0) (by omega)).2.2
    rw[refV_of_rep h5]
    exact h5.out hout
   ·exact(hr i hi 0 (by omega)).out hout
  ·obtain⟨i,hi,rfl⟩:=List.getElem_of_mem hy
   rw[setMany_length] at hi
   have:=setMany_get cs xs a0 i (by omega)
   rw[List.getElem?_eq_getElem (by rw[setMany_length];exact hi)] at this
   split at this
   ·rename_i hin
    rw[(hcs (i-a0) (by omega)).1] at this
    rw[Option.some.inj this]
    exact(hcs (i-a0) (by omega)).2.1
   ·exact hone _ (List.mem_of_getElem? this.symm)
 refine⟨hs.upd (k:= .r k) hkk (hblk _) hw (fun m o' hm=> ?_),fun js=>stp_upd hs (m:= .r k) hkk (hblk _) hFg hw (fun _ _ h=>by cases h) fun k' ty' v' hk'=> ?_⟩
 ·rw[Hget_cons] at hm
  split at hm
  ·rename_i hroot
   cases m with
   |r q=>
    simp only[Nm.root] at hroot
    subst hroot
    simp only[Hget,Hroot,if_true,Option.some.injEq] at hm
    subst hm
    exact .inl ⟨rfl,hblk _,hob⟩
   |c q i' j'=>
    simp only[Nm.root] at hroot
    subst hroot
    obtain⟨ty0,s0,sz0,n0,cc,ty',s'',q',hr',he0,hi',hj',hcell,rfl⟩:=Hget_c hm
    simp only[Hroot,if_true,Option.some.injEq,Ob.row.injEq] at hr'
    obtain⟨rfl,rfl⟩:=hr'
    rw[he'] at he0
    obtain⟨rfl,rfl,rfl⟩:1=sz0∧N=n0∧f'=cc:=by simpa using he0
    obtain rfl:j'=0:=by omega
    refine .inr ⟨fun e=>(by cases e), .row ty' s'',?_,rfl,fun _ h=>h⟩
    have hold:(f i').cell 0= .own ty' s'' q':=by
     rw[hf i' hi'] at hcell
     split at hcell
     ·rename_i hin
      have h5:=(hcs (i'-a0) (by omega)).2.2
      rw[hcell] at h5
      exact(rep_own h5).elim
     ·exact hcell
    simp only[Hget,hk,Hchild,he,hold,if_pos (And.intro hi' hj')]
  ·rename_i hroot
   exact .inr ⟨fun e=>hroot (by rw[e];rfl),o',hm,rfl,fun _ h=>h⟩
 ·have hne:k≠k':=by rintro rfl;rw[hkk] at hk';cases hk'
  simp only[Hget,Hroot] at hk'⊢;rw[if_neg hne];exact hk'
theorem row_same (hs:Sat x s F a w) {k:Nat} {o:Ob} (hk:Hroot s.h k=some o):Sat x {s with h:=(k,o)::s.h} F a w∧ ∀js,Stp js s.h ((k,o)::s.h) F F w w:=by
 have hsame: ∀k',Hroot ((k,o)::s.h) k'=Hroot s.h k':=fun k'=>by
  simp only[Hroot]
  split
  ·rename_i hkq;subst hkq;rw[hk]
  ·rfl
 refine⟨hs.heq hsame,fun js=>⟨⟨Nat.le_refl _,fun _ _ _=>rfl,fun k' ty' v' b2 hk' hO j' hj'=>rfl,fun h=>by cases h⟩,(Cx.Le.refl w F).lo,fun k' ty' v' hk'=>⟨v',?_⟩⟩⟩
 show Hget ((k,o)::s.h) (.r k')=_
 rw[Hget_congr hsame];exact hk'
theorem vcopy_ok (hs:Sat x s F a w) {d:Option Nat} {t t2 ty':TypeId} {p q:V} {y z:Value} {l:List Prop} {s':S} (h:vcopy P s d t p q=some (l,s')) (hd: ∀k,d=some k→k<x.n) (hp:Rep w F p y) (hq:Rep w F q z):
  ∃r w',(Builtin.copy_ #[t,t2] ty' #[y,z]).run P w= .ok r w'∧Sat x s' F (a.put d r) w'∧ ∀js,Stp js s.h s'.h F F w w':=by
 unfold vcopy at h
 split at h
 rotate_left
 ·cases h
 rename_i el ht
 split at h
 rotate_left
 ·cases h
 rename_i sz bs hri
 obtain⟨i,zz,hi,hz,hsz,hby,hzs,hszp⟩:=rowInfo_ok hri
 split at h
 rotate_left
 ·cases h
 rename_i k a0 m hc
 split at h
 rotate_left
 ·cases h
 rename_i ty c hk
 split at h
 rotate_left
 ·cases h
 rename_i n c' hcp
 split at h
 rotate_left
 ·cases h
 rename_i hs1
 subst hs1
 obtain⟨rfl,rfl⟩:=some_pair h
 obtain⟨Nn,M,f,gq,he,heq,hnn,hz0,hset⟩:=cpV_ok hcp
 have hkk:Hget s.h (.r k)=some (.row ty c):=hk
 obtain⟨x1,szr,nr,cc,u,xs,hW,he3,hown,hcs,hr,hone,hF⟩:=hs.own (.r k) _ hkk
 rw[he] at he3
 obtain⟨rfl,rfl,rfl⟩:1=szr∧Nn=nr∧f=cc:=by simpa using he3
 obtain⟨A2,cap2,b2,off2,u2,rfl,hcap2,hA2,hcell2,hr2⟩:=rep_sl heq hq
 have hsz1:(P.info? el).map (·.size)=some 1:=by rw[hi];simp[hsz]
 obtain⟨B,dLen,dCap,rfl,hdl,hB,hfit⟩: ∃B dLen dCap,y= .slice B dLen dCap∧Nat.min M dLen=cpN m Nn M∧(0<dLen→ ∃g cap cur,x1= .slice (some ⟨g,0,none⟩) Nn cap∧B=some ⟨g,a0,none⟩∧w.heap[g]?=some (.cells cur ty (0,0))∧Nn≤cap∧cap≤maxLen∧cur.size=cap∧cur.toList.take Nn=xs)∧a0+cpN m Nn M≤Nn:=by
  obtain⟨hxl,hv⟩:=hown
  unfold cdst at hc
  split at hc
  ·obtain⟨rfl,rfl,rfl⟩:_=k∧0=a0∧none=m:=by simpa using hc
   have hy:=rep_ro hp
   rw[hW] at hy
   obtain rfl:x1=y:=by simpa using hy
   rcases hv with ⟨rfl,h0⟩|⟨g,cap,cur,rfl,_,h1,h2,h3,h4,h5⟩
   ·exact⟨none,0,0,rfl,by simp[cpN,h0],fun h=>by omega,by simp[cpN,h0]⟩
   ·exact⟨_,_,_,rfl,rfl,fun _=>⟨g,cap,cur,rfl,rfl,h1,h2,h3,by simpa using h4,by simpa using h5⟩,by simp only[cpN];have:Nat.min M Nn≤Nn:=Nat.min_le_right _ _;omega⟩
  ·rename_i k3 sz3 a3 n3
   have hm3:Nat.min M n3≤n3:=Nat.min_le_right _ _
   split at hc
   ·rename_i hsz3
    subst hsz3
    obtain⟨rfl,rfl,rfl⟩:_=k∧_=a0∧some _=m:=by simpa using hc
    obtain⟨A,N,cap,B,hW2,⟨hb1,hb2,hb3⟩,hb4,rfl⟩:=rep_vw hp
    rw[hW] at hW2
    obtain rfl:x1=_:=by simpa using hW2
    rcases hv with ⟨e0,h0⟩|⟨g,cap',cur,e1,_,h1,h2,h3,h4,h5⟩
    ·obtain⟨rfl,rfl,rfl⟩:A=none∧N=0∧cap=0:=by simpa using e0
     refine⟨_,_,_,rfl,rfl,fun h=>by omega,?_⟩
     simp only[cpN]
     omega
    ·obtain⟨rfl,rfl,rfl⟩:A=some ⟨g,0,none⟩∧N=Nn∧cap=cap':=by simpa using e1
     refine⟨_,_,_,rfl,rfl,fun h=>⟨g,_,cur,rfl,?_,h1,h2,h3,by simpa using h4,by simpa using h5⟩,?_⟩
     ·rw[hb4 (by omega),Nat.mul_one,Option.map_some,addr_at0,Nat.zero_add]
     ·simp only[cpN]
      omega
   ·cases hc
  ·cases hc
 have hn:cpN m Nn M=n:=hnn.symm
 have hn2:n≤M:=by rw[←hn,←hdl];exact Nat.min_le_left _ _
 have hnd:n≤dLen:=by rw[←hn,←hdl];exact Nat.min_le_right _ _
 rw[hn] at hdl hfit
 obtain⟨f',he',hf'⟩:=hset hn2 hfit
 rcases Nat.eq_zero_or_pos n with h0|hpos
 ·
  subst h0
  rw[hz0 rfl]
  obtain⟨q1,q2⟩:=row_same hs hk
  exact⟨_,w,run_copy_none (P:=P) w t t2 ty' el B A2 dLen dCap M cap2 ht hsz1 hdl,q1.put hd (.val _),q2⟩
 ·obtain⟨g,cap,cur,rfl,rfl,hheap,hncap,hmax,hcsz,htake⟩:=hB (by omega)
  obtain⟨hA2e,hb2,hb2F⟩:=hA2 (by omega)
  subst hA2e
  obtain⟨cs,hcs2,hcl,hcg⟩: ∃cs:List Value,cs=(List.range n).map (fun j=>u2 j 0)∧cs.length=n∧ ∀j,j<n→cs[j]?=some (u2 j 0):=⟨_,rfl,by simp,fun j hj=>by simp[hj]⟩
  have hone2: ∀v∈cs,v.oneCell'=true:=fun v hv=>by
   rw[hcs2] at hv
   obtain⟨j,hj,rfl⟩:=List.mem_map.1 hv
   exact(hcell2 j (by have:=List.mem_range.1 hj;omega) 0 (by omega)).2
  have hrun:=run_copy_cells (P:=P) w t t2 ty' el g a0 dLen dCap ⟨b2,off2,none⟩ M cap2 cs ht hsz1 (by rw[hcl,hdl]) (fun j v hj=>by
   have hjn:j<n:=by have:=(List.getElem?_eq_some_iff.1 hj).1;omega
   rw[hcg j hjn] at hj
   rw[addr_at0,←Option.some.inj hj]
   have:=(hcell2 j (by omega) 0 (by omega)).1
   rwa [Nat.mul_one,Nat.add_zero] at this) (fun j hj=>by
   rw[cell0 hheap,Array.getElem?_eq_getElem (by omega)];rfl) (fun j hj=>frozen_no hheap) hone2
  rw[hcl] at hrun
  obtain⟨q1,q2⟩:=row_set hs (v:=fun j=>u2 j 0) hk he he' hf' hW hcl hfit (by omega) fun j hj=>⟨hcg j hj,(hcell2 j (by omega) 0 (by omega)).2,hr2 j (by omega) 0 (by omega)⟩
  exact⟨_,_,hrun,q1.put hd (.val _),q2⟩
def vclear (P:Program) (s:S) (d:Option Nat) (t:TypeId) (p:V):Option (List Prop×S):=
 match P.underlying t with
 |some (.slice el)=>match p with
  | .ro (.r k)=>match Hroot s.h k with
   |some (.row ty (.by l))=>some ([(P.info? el).bind (·.zero)=some (.int .u8 0)],⟨s.e.put d (.tu []),(k, .row ty (.by (List.replicate l.length 0)))::s.h,s.nx⟩)
   |_=>none
  |_=>none
 |_=>none
theorem vclear_ok (hs:Sat x s F a w) {d:Option Nat} {t ty':TypeId} {p:V} {y:Value} {l:List Prop} {s':S} (h:vclear P s d t p=some (l,s')) (hl:AllP l) (hd: ∀k,d=some k→k<x.n) (hp:Rep w F p y):
  ∃r w',(Builtin.clear_ #[t] ty' #[y]).run P w= .ok r w'∧Sat x s' F (a.put d r) w'∧ ∀js,Stp js s.h s'.h F F w w':=by
 unfold vclear at h
 split at h
 rotate_left
 ·cases h
 rename_i el ht
 split at h
 rotate_left
 ·cases h
 rename_i k
 split at h
 rotate_left
 ·cases h
 rename_i ty l0 hk
 obtain⟨rfl,rfl⟩:=some_pair h
 have hz:=allP_head hl
 have hv: ∀w,(zeroValue el).run P w= .ok (.int .u8 0) w:=fun w=>by
  obtain⟨i,hi,hiz⟩:=Option.bind_eq_some_iff.1 hz
  simp[zeroValue,typeInfo,hi,hiz]
 obtain⟨x1,szr,nr,cc,u,xs,hW,he,hown,hcs,hr,hone,hF⟩:=hs.own (.r k) _ (show Hget s.h (.r k)=some (.row ty (.by l0)) from hk)
 obtain⟨rfl,rfl,rfl⟩:1=szr∧l0.length=nr∧_=cc:=by simpa [V.elems] using he
 have hy:=rep_ro hp
 rw[hW] at hy
 obtain rfl:x1=y:=by simpa using hy
 have htu: ∀w F,Rep w F (.tu []) (.tuple #[]):=fun w F=> .tu [] _ (fun _=>undef) rfl (fun j hj=>absurd hj (Nat.not_lt_zero _)) fun j hj=>absurd hj (Nat.not_lt_zero _)
 rcases Nat.eq_zero_or_pos l0.length with h0|hpos
 ·obtain rfl:l0=[]:=List.length_eq_zero_iff.1 h0
  obtain⟨q1,q2⟩:=row_same hs hk
  refine⟨.tuple #[],w,?_,q1.put hd (htu _ _),q2⟩
  rcases hown.2 with ⟨rfl,_⟩|⟨g,cap,cur,rfl,_⟩<;>simp[Builtin.clear_,run_underlying ht]
 ·rcases hown.2 with ⟨rfl,h1⟩|⟨g,cap,cur,rfl,_,hheap,hncap,hmax,hcsz,htake⟩
  ·omega
  have hcsz:cur.size=cap:=by simpa using hcsz
  have hncap:l0.length≤cap:=hncap
  obtain⟨q1,q2⟩:=row_set hs (a0:=0) (n:=l0.length) (c':= .by (List.replicate l0.length 0)) (g:=fun _=> .val (.int .u8 0)) (v:=fun _=> .int .u8 0) (cs:=List.replicate l0.length (.int .u8 0)) hk (by_elems l0) (by rw[by_elems,List.length_replicate]) (fun i hi=>by rw[if_pos (by omega)];simp[byteAt,List.getD_eq_getElem?_getD,hi]) hW (by simp) (by omega) hpos fun j hj=>⟨by simp[hj],rfl, .val _⟩
  exact⟨_,_,Lib.run_clear_slice w t el ty' (.int .u8 0) ht hv rfl rfl g 0 l0.length cap hpos (fun j hj=>by rw[cell0 hheap,Array.getElem?_eq_getElem (by omega)];rfl) (fun j hj=>frozen_no hheap),q1.put hd (htu _ _),q2⟩
end
end Go.Proofs.YtfengpdaocgcnaaGreatDoor
