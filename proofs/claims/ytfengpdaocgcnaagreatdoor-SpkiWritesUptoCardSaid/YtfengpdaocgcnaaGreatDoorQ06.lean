/- One's own memory: slices of one's own lent or given out of hand; a new slice of one's own. -/
import Derived.Test.YtfengpdaocgcnaaGreatDoorQ05
namespace Go.Proofs.YtfengpdaocgcnaaGreatDoor
open Go.RowKit
def er1:V→V
 | .own _ s q=>match s with
  | .by l=>match q with
   |none=> .by l
   |some n=> .by (l.take n)
  |_=> .any
 |v=>v
def er2:V→V
 | .st cs=> .st (cs.map er1)
 |v=>er1 v
def V.er:V→V
 | .sq sz d l=> .sq sz (er2 d) (l.map er2)
 |v=>v
def fzN (m:Nm) (c:V):V:=
 match m with
 | .r _=>c.er
 | .c _ _ _=>match c with
  | .by l=> .by l
  |_=> .any
def fz1 (h:List (Nat×Ob)) (v:V):V×List Prop:=
 match v with
 | .ro m=>match Hpk h m with
  |some (l, .row _ c)=>(fzN m c,l)
  |_=>(v,[])
 | .vw m sz a n=>match Hpk h m with
  |some (l, .row _ c)=>match (fzN m c).elems with
   |some (sz',_,_)=>if sz'=sz then match (fzN m c).cut a (a+n) with
     |some r=>(r,l)
     |none=>(v,[])
    else (v,[])
   |none=>(v,[])
  |_=>(v,[])
 |v=>(v,[])
def fzL (h:List (Nat×Ob)):List V→List V×List Prop
 |[]=>([],[])
 |v::r=>((fz1 h v).1::(fzL h r).1,(fz1 h v).2++(fzL h r).2)
def fz (h:List (Nat×Ob)) (v:V):V×List Prop:=
 match v with
 | .st cs=>(.st (fzL h cs).1,(fzL h cs).2)
 |v=>fz1 h v
def rt1:V→List Nat
 | .ro m=>[m.root]
 | .vw m _ _ _=>[m.root]
 |_=>[]
def rts:V→List Nat
 | .st cs=>cs.flatMap rt1
 |v=>rt1 v
def memN:List Nat→Nat→Bool
 |[],_=>false
 |k::r,n=>decide (k=n)||memN r n
theorem memN_iff {ks:List Nat} {n:Nat}:memN ks n=true↔n∈ks:=by
 induction ks with
 |nil=>simp[memN]
 |cons k r ih=>
  simp only[memN,Bool.or_eq_true,decide_eq_true_eq,ih,List.mem_cons]
  exact⟨fun h=>h.imp Eq.symm id,fun h=>h.imp Eq.symm id⟩
def HdelK (h:List (Nat×Ob)) (ks:List Nat):List (Nat×Ob):=
 match h with
 |[]=>[]
 |(k,v)::r=>match memN ks k with
  |true=>HdelK r ks
  |false=>(k,v)::HdelK r ks
theorem Hroot_delK {h:List (Nat×Ob)} {ks:List Nat} {k:Nat}:Hroot (HdelK h ks) k=if memN ks k=true then none else Hroot h k:=by
 induction h with
 |nil=>simp[HdelK,Hroot]
 |cons p r ih=>
  obtain⟨i,v⟩:=p
  simp only[HdelK]
  split
  ·rename_i hc
   rw[ih]
   by_cases he:i=k
   ·subst he;rw[if_pos hc,if_pos hc]
   ·simp only[Hroot];rw[if_neg he]
  ·rename_i hc
   simp only[Hroot]
   by_cases he:i=k
   ·subst he;rw[if_pos rfl,if_neg (by rw[hc];simp),if_pos rfl]
   ·rw[if_neg he,if_neg he,ih]
theorem Hget_delK {h:List (Nat×Ob)} {ks:List Nat} {m:Nm} {o:Ob} (hk:Hget (HdelK h ks) m=some o):Hget h m=some o∧m.root∉ks:=by
 cases m with
 |r k=>
  simp only[Hget,Hroot_delK] at hk⊢
  split at hk
  ·cases hk
  ·rename_i hc;exact⟨hk,by rw[memN_iff] at hc;exact hc⟩
 |c k i j=>
  simp only[Hget,Hroot_delK] at hk⊢
  split at hk
  ·simp[Hchild] at hk
  ·rename_i hc;exact⟨hk,by rw[memN_iff] at hc;exact hc⟩
theorem Hget_delK_of {h:List (Nat×Ob)} {ks:List Nat} {m:Nm} {o:Ob} (hk:Hget h m=some o) (hn:m.root∉ks):Hget (HdelK h ks) m=some o:=by
 cases m with
 |r k=>simp only[Hget,Hroot_delK];rw[if_neg (by rw[memN_iff];exact hn)];exact hk
 |c k i j=>simp only[Hget,Hroot_delK];rw[if_neg (by rw[memN_iff];exact hn)];exact hk
def noBox (h:List (Nat×Ob)):List Nat→Bool
 |[]=>true
 |k::r=>(match Hroot h k with
  |some (.box _ _)=>false
  |_=>true)&&noBox h r
theorem noBox_ok {h:List (Nat×Ob)}: ∀{ks:List Nat},noBox h ks=true→ ∀k,k∈ks→ ∀ty v,Hget h (.r k)≠some (.box ty v)
 |[],_,k,hk=>by simp at hk
 |k0::r,hh,k,hk=>by
  simp only[noBox,Bool.and_eq_true] at hh
  intro ty v e
  rcases List.mem_cons.1 hk with rfl|hk
  ·simp only[Hget] at e
   rw[e] at hh
   simp at hh
  ·exact noBox_ok hh.2 k hk ty v e
theorem hbx_delK {h:List (Nat×Ob)} {ks:List Nat} (hn:noBox h ks=true):Hbx h (HdelK h ks):=fun k ty v hk=>
 ⟨v,Hget_delK_of hk fun hm=>noBox_ok hn k hm ty v hk⟩
def Cx.less (F:Cx) (h:List (Nat×Ob)) (ks:List Nat):Cx:=⟨fun b=>F.F b∧ ¬ ∃m ob,m.root∈ks∧Hget h m=some ob∧F.blk m ob=some b,F.O,F.W⟩
section
variable {P:Program} {x:Fx} {F:Cx} {w w':World} {a:Act} {s:S}
theorem less_le (F:Cx) (h:List (Nat×Ob)) (ks:List Nat) (w:World):Cx.Le w F (F.less h ks):=⟨fun _ hb=> .inl hb.1,fun _ _ h=>h,fun _ _ h=>h⟩
theorem lent_row (hs:Sat x s F a w) {ks:List Nat} {m:Nm} {ty:TypeId} {c:V} {y:Value} (hk:Hget s.h m=some (.row ty c)) (hm:m.root∈ks) (hW:F.W m=some y):Rep w (F.less s.h ks) (fzN m c) y:=by
 have hle:=less_le F s.h ks w
 have hby: ∀(m:Nm) (ty:TypeId) (l:List UInt8) (y:Value),m.root∈ks→Hget s.h m=some (.row ty (.by l))→F.W m=some y→ ∀n,n≤l.length→ ∀y',(∃A cap,y= .slice A l.length cap∧y'= .slice A n cap)→Rep w (F.less s.h ks) (.by (l.take n)) y':=by
  intro m ty l y hm hk hW n hn y' hy'
  obtain⟨z,sz,n',cc,u,xs,hW',he,hown,hc,hr,h1,hF⟩:=hs.own m _ hk
  rw[hW] at hW'
  obtain rfl:y=z:=by simpa using hW'
  obtain⟨rfl,rfl,rfl⟩:1=sz∧l.length=n'∧_=cc:=by simpa [V.elems] using he
  obtain⟨A,cap,rfl,rfl⟩:=hy'
  obtain⟨A',cap',e,hcap,hA⟩:=row_val hown
  obtain⟨rfl,rfl⟩:A=A'∧cap=cap':=by simpa using e
  have htl:(l.take n).length=n:=by simp;omega
  have he2:(V.by (l.take n)).elems=some (1,n,fun i=> .val (.int .u8 (byteAt (l.take n) i))):=by simp only[V.elems,htl]
  by_cases hn0:0<n
  ·obtain⟨g,rfl⟩:=hA (by omega)
   refine .sl _ 1 n _ _ cap g 0 u he2 (by omega) (fun _=>⟨rfl,hs.flt g (hF g rfl),fun e=>e.2 ⟨m,_,hm,hk,by simp[Cx.blk,hW,Value.ownBlock]⟩⟩) (fun i hi j hj=> ?_) (fun i hi j hj=> ?_)
   ·rw[Nat.zero_add]
    exact⟨row_cell hown (fun _ _=>rfl) (hc i (by omega) j hj),h1 _ (List.mem_of_getElem? (hc i (by omega) j hj))⟩
   ·have:Rep w (F.less s.h ks) (.val (.int .u8 (byteAt l i))) (u i j):=(hr i (by omega) j hj).le hle
    have e:byteAt (l.take n) i=byteAt l i:=by simp[byteAt,List.getD_eq_getElem?_getD,hi]
    rw[e];exact this
  ·obtain rfl:n=0:=by omega
   exact .sl _ 1 0 _ _ cap 0 0 u he2 (by omega) (fun h=>by omega) (fun i hi=>by omega) (fun i hi=>by omega)
 obtain⟨z,sz,n,cc,u,xs,hW',he,hown,hc,hr,h1,hF⟩:=hs.own m _ hk
 rw[hW] at hW'
 obtain rfl:y=z:=by simpa using hW'
 obtain⟨A,cap,rfl,hcap,hA⟩:=row_val hown
 cases c with
 |«by» l=>
  have hfz:fzN m (.by l)= .by l:=by cases m<;>rfl
  rw[hfz]
  have:=hby m ty l _ hm hk hW l.length (Nat.le_refl _) (.slice A l.length cap) ⟨A,cap,by
   obtain⟨_,h,_⟩:1=sz∧l.length=n∧_:=by simpa [V.elems] using he
   rw[h],rfl⟩
  rw[List.take_length] at this
  obtain⟨_,h,_⟩:1=sz∧l.length=n∧_:=by simpa [V.elems] using he
  rw[←h];exact this
 |sq sz' d l=>
  simp only[V.elems] at he
  split at he
  ·cases he
  rename_i hz
  obtain⟨rfl,rfl,rfl⟩:sz'=sz∧l.length=n∧_=cc:=by simpa using he
  cases m with
  |c k i j=>exact .any _
  |r k=>
  show Rep _ _ (V.er (.sq sz' d l)) _
  have he2:(V.er (.sq sz' d l)).elems=some (sz',l.length,fun i=>(l.map er2).getD i (er2 d)):=by simp only[V.er,V.elems,if_neg hz,List.length_map]
  have hcell: ∀(v:V) (j:Nat),(er2 v).cell j=er1 (v.cell j):=by
   intro v j
   cases v with
   |st cs=>
    simp only[er2,V.cell,List.getD_eq_getElem?_getD,List.getElem?_map]
    cases cs[j]?<;>rfl
   |own ty s q=>
    cases s<;>cases q<;>rfl
   |_=>rfl
  have hget: ∀i,i<l.length→(l.map er2).getD i (er2 d)=er2 (l.getD i d):=fun i hi=>by simp[List.getD_eq_getElem?_getD,hi]
  have hrep: ∀i,i<l.length→ ∀j,j<sz'→Rep w (F.less s.h ks) (((l.map er2).getD i (er2 d)).cell j) (u i j):=by
   intro i hi j hj
   rw[hget i hi,hcell]
   have h5:Rep w F (refV (.r k) i j ((l.getD i d).cell j)) (u i j):=hr i hi j hj
   generalize hv:(l.getD i d).cell j=v at h5
   have hchild: ∀ty' s' q,v= .own ty' s' q→Hget s.h (.c k i j)=some (.row ty' s'):=fun ty' s' q e=>by
    simp only[Hget] at hk⊢
    simp only[hk,Hchild,V.elems,if_neg hz,if_pos (And.intro hi hj),hv,e]
   cases v with
   |own ty' s' q=>
    simp only[er1]
    split
    ·rename_i l'
     ·have hch:=hchild ty' (.by l') q rfl
      cases q with
      |none=>
       have hWc:=rep_ro h5
       obtain⟨z2,_,n2,_,_,_,hW2,he3,hown2,_⟩:=hs.own _ _ hch
       rw[hWc] at hW2
       obtain rfl:u i j=z2:=by simpa using hW2
       obtain⟨A2,cap2,e2,_⟩:=row_val hown2
       obtain⟨_,h,_⟩:_∧l'.length=n2∧_:=by simpa [V.elems] using he3
       have:=hby (.c k i j) ty' l' _ hm hch hWc l'.length (Nat.le_refl _) (u i j) ⟨A2,cap2,by rw[e2,h],by rw[e2,h]⟩
       rw[List.take_length] at this
       exact this
      |some q=>
       simp only[refV,V.elems] at h5
       obtain⟨A3,N,cap3,B,hWc,⟨hn3,hN3,hA3⟩,hB,e3⟩:=rep_vw h5
       obtain⟨z2,_,n2,_,_,_,hW2,he3,hown2,_⟩:=hs.own _ _ hch
       rw[hWc] at hW2
       obtain⟨_,h,_⟩:_∧l'.length=n2∧_:=by simpa [V.elems] using he3
       obtain rfl:_=z2:=by simpa using hW2
       obtain⟨A2,cap2,e2,_⟩:=row_val hown2
       obtain⟨rfl,rfl,rfl⟩:A3=A2∧N=n2∧cap3=cap2:=by simpa using e2
       subst h
       have hB':B=A3∨q=0:=by
        by_cases hc0:0<cap3
        ·left
         rw[hB hc0]
         cases A3<;>simp[Addr.add]
        ·right;omega
       rw[e3]
       rcases hB' with rfl|rfl
       ·exact hby (.c k i j) ty' l' _ hm hch hWc q (by omega) _ ⟨B,cap3,rfl,by simp⟩
       ·exact .sl _ 1 0 (fun i=> .val (.int .u8 (byteAt (l'.take 0) i))) _ _ 0 0 (fun _ _=>undef) (by simp[V.elems]) (by omega) (fun h=>by omega) (fun i hi=>by omega) (fun i hi=>by omega)
    ·exact .any _
   |_=>exact h5.le hle
  by_cases hn:0<l.length
  ·obtain⟨g,rfl⟩:=hA hn
   refine .sl _ sz' l.length _ _ cap g 0 u he2 hcap (fun _=>⟨rfl,hs.flt g (hF g rfl),fun e=>e.2 ⟨.r k,_,hm,hk,by simp[Cx.blk,hW,Value.ownBlock]⟩⟩) (fun i hi j hj=> ?_) hrep
   rw[Nat.zero_add]
   exact⟨row_cell hown (fun _ _=>rfl) (hc i hi j hj),h1 _ (List.mem_of_getElem? (hc i hi j hj))⟩
  ·exact .sl _ sz' l.length _ _ cap 0 0 u he2 hcap (fun h=>absurd h hn) (fun i hi=>by omega) (fun i hi=>by omega)
 |_=>simp[V.elems] at he
theorem fz1_ok (hs:Sat x s F a w) {ks:List Nat} {v:V} {y:Value} (hv:Rep w F v y) (hl:AllP (fz1 s.h v).2) (hm: ∀k,k∈rt1 v→k∈ks):Rep w (F.less s.h ks) (fz1 s.h v).1 y:=by
 have hle:=less_le F s.h ks w
 unfold fz1 at hl⊢
 split
 ·rename_i m
  split
  ·rename_i l ty c hk
   simp only[hk] at hl
   exact lent_row hs (Hpk_ok hk hl) (hm _ (by simp[rt1])) (rep_ro hv)
  ·exact hv.le hle
 ·rename_i m sz a' n
  split
  ·rename_i l ty c hk
   simp only[hk] at hl
   split
   ·rename_i szz n3 ccc he
    simp only[he] at hl
    split
    ·rename_i hszz
     subst hszz
     simp only[if_true] at hl
     split
     ·rename_i r hcut
      simp only[hcut] at hl
      obtain⟨A,N,cap,B,hW,⟨hn,hNc,hA⟩,hB,rfl⟩:=rep_vw hv
      have h1:=lent_row hs (Hpk_ok hk hl) (hm _ (by simp[rt1])) hW
      generalize fzN m c=e at h1 he hcut
      obtain⟨A2,cap2,b,off,u,e2,hcap,_⟩:=rep_sl he h1
      obtain⟨rfl,rfl,rfl⟩:A=A2∧N=n3∧cap=cap2:=by simpa using e2
      have h2:=cut_rep hcut he (Nat.le_add_right a' n) hn h1
      rw[Nat.add_sub_cancel_left] at h2
      by_cases hc:cap=a'
      ·obtain⟨c',he',_⟩:=cut_elems hcut he (Nat.le_add_right a' n) hn
       rw[Nat.add_sub_cancel_left] at he'
       obtain rfl:n=0:=by omega
       exact .sl r _ 0 c' _ _ 0 0 (fun _ _=>undef) he' (Nat.zero_le _) (fun h=>by omega) (fun i hi=>by omega) (fun i hi=>by omega)
      ·rw[if_neg hc] at h2
       rw[hB (by omega)];exact h2
     ·exact hv.le hle
    ·exact hv.le hle
   ·exact hv.le hle
  ·exact hv.le hle
 ·exact hv.le hle
theorem fzL_ok (hs:Sat x s F a w) {ks:List Nat}: ∀(vs:List V),AllP (fzL s.h vs).2→(∀k,k∈vs.flatMap rt1→k∈ks)→(fzL s.h vs).1.length=vs.length∧ ∀(i:Nat) (v:V) (y:Value),vs[i]?=some v→Rep w F v y→ ∃v',(fzL s.h vs).1[i]?=some v'∧Rep w (F.less s.h ks) v' y
 |[],_,_=>⟨rfl,fun i v y hv=>by simp at hv⟩
 |v::r,hl,hm=>by
  simp only[fzL] at hl⊢
  obtain⟨h1,h2⟩:=allP_app hl
  simp only[List.flatMap_cons,List.mem_append] at hm
  obtain⟨q1,q2⟩:=fzL_ok hs r h2 (fun k hk=>hm k (.inr hk))
  refine⟨by simp[q1],fun i u y hu hy=> ?_⟩
  cases i with
  |zero=>
   simp only[List.getElem?_cons_zero,Option.some.injEq] at hu
   subst hu
   exact⟨_,by rw[List.getElem?_cons_zero],fz1_ok hs hy h1 (fun k hk=>hm k (.inl hk))⟩
  |succ i=>
   rw[List.getElem?_cons_succ] at hu⊢
   exact q2 i u y hu hy
theorem fz_ok (hs:Sat x s F a w) {ks:List Nat} {v:V} {y:Value} (hv:Rep w F v y) (hl:AllP (fz s.h v).2) (hm: ∀k,k∈rts v→k∈ks):Rep w (F.less s.h ks) (fz s.h v).1 y:=by
 cases v with
 |st cs=>
  simp only[fz] at hl⊢
  obtain⟨cs',u,rfl,h1,h2,h3⟩:=rep_st hv
  obtain⟨q1,q2⟩:=fzL_ok hs cs hl hm
  refine .st _ cs' u (by rw[q1];exact h1) (fun j hj=>h2 j (by rw[←q1];exact hj)) fun j hj=> ?_
  rw[q1] at hj
  obtain⟨v',e1,e2⟩:=q2 j (cs.getD j .any) (u j) (by simp[List.getD_eq_getElem?_getD,hj]) (h3 j hj)
  rw[List.getD_eq_getElem?_getD,e1];exact e2
 |_=>exact fz1_ok hs hv hl hm
theorem Sat.less (hs:Sat x s F a w) (ks:List Nat):Sat x {s with h:=HdelK s.h ks} (F.less s.h ks) a w:=by
 have hle:=less_le F s.h ks w
 refine⟨hs.ev,fun t v ht=>⟨(hs.env t v ht).1,(hs.env t v ht).2.le hle⟩,hs.df,hs.sz,fun b hb=>⟨hs.fold b hb,fun⟨m,ob,_,h1,h2⟩=>hs.own3 m ob b h1 h2 hb⟩,fun b hb=>hs.flt b hb.1,hs.nx,fun m o hk=> ?_,
  fun m o g hk hg=>hs.own2 m o g (Hget_delK hk).1 hg,fun m o g hk hg=>hs.own3 m o g (Hget_delK hk).1 hg,fun k1 k2 o1 o2 g e1 e2=>hs.sep k1 k2 o1 o2 g (Hget_delK e1).1 (Hget_delK e2).1,hs.wsl,hs.le.trans hle hs.ev.size,x.J.out hs.inv (Nat.le_refl _) (fun _ _ _=>rfl) fun b hb=> .inl hb.1⟩
 obtain⟨h1,h2⟩:=Hget_delK hk
 have hok:=hs.own m o h1
 have hne: ∀g,F.blk m o=some g→(F.less s.h ks).F g:=fun g hg=>⟨blk_F hs h1 hg,fun⟨m',ob,hm',h1',h2'⟩=>h2 (by rw[hs.sep m m' o ob g h1 h1' hg h2'];exact hm')⟩
 cases o with
 |box ty v=>
  obtain⟨b,cs,u,q1,q2,q3,q4,q5,q6⟩:=hok
  exact⟨b,cs,u,q1,q2,q3,q4,fun j hj=>(q5 j hj).le hle,hne b q1⟩
 |row ty v=>
  obtain⟨z',sz',n',c',u',xs',q1,q2,q3,q4,q5,q6,q7⟩:=hok
  exact⟨z',sz',n',c',u',xs',q1,q2,q3,q4,fun i hi j hj=>(q5 i hi j hj).le hle,q6,fun g hg=>hne g (by simp[Cx.blk,q1,hg])⟩
def ownR (m:Nm) (t:V) (q:Option Nat):V:=
 match q with
 |none=> .ro m
 |some n=>match t.elems with
  |some (z,_,_)=> .vw m z 0 n
  |none=> .any
theorem row_new (hs:Sat x s F a w) {ks:List Nat} {el:TypeId} {sz N:Nat} {v':Value} {XS:List Value} {c:V} {cc:Nat→V} {u:Nat→Nat→Value} {τ:Nat→Nat→Option Nm} {B:Option Nat} {d:Option Nat}
  (hd: ∀k,d=some k→k<x.n) (hown:w'.ownsRow 0 el sz v' N XS) (he:c.elems=some (sz,N,cc)) (hg:w.grownBy w' B) (hnb:noBox s.h ks=true)
  (hB: ∀g,B=some g→ ∃m ob,Hget s.h m=some ob∧m.root∈ks∧F.blk m ob=some g∧ ∀i j m',τ i j=some m'→m'≠m)
  (hblk:v'.ownBlock=B∨v'.ownBlock=some w.heap.size∨v'.ownBlock=none)
  (hu: ∀i,i<N→ ∀j,j<sz→XS[i*sz+j]?=some (u i j)) (h1: ∀y∈XS,y.oneCell'=true)
  (hr: ∀i,i<N→ ∀j,j<sz→(∀ty t q,(cc i).cell j≠ .own ty t q)→Rep w F ((cc i).cell j) (u i j))
  (hc: ∀i,i<N→ ∀j,j<sz→ ∀ty t q,(cc i).cell j= .own ty t q→
   (∃m,τ i j=some m∧Hget s.h m=some (.row ty t)∧m.root∈ks∧Rep w F (ownR m t q) (u i j))∨
   (τ i j=none∧q=none∧u i j= .slice none 0 0∧ ∃z f,t.elems=some (z,0,f)))
  (hτ: ∀i j i' j' m,τ i j=some m→τ i' j'=some m→i=i'∧j=j'):
  ∃G,Sat x ⟨s.e.put d (.ro (.r s.nx)),(s.nx, .row el c)::HdelK s.h ks,s.nx+1⟩ G (a.put d v') w'∧ ∀js,Stp js s.h ((s.nx, .row el c)::HdelK s.h ks) F G w w':=by
 let G:Cx:=⟨fun b=>F.F b∨v'.ownBlock=some b,F.O,fun m=>match m with
  | .r q=>if q=s.nx then some v' else F.W (.r q)
  | .c q i j=>if q=s.nx then (match τ i j with
   |some m=>F.W m
   |none=>some (.slice none 0 0)) else F.W (.c q i j)⟩
 have hGW: ∀m:Nm,m.root≠s.nx→G.W m=F.W m:=fun m hm=>by
  cases m<;>simp only[Nm.root] at hm<;>simp[G,hm]
 have hBF: ∀g,B=some g→F.F g:=fun g hg'=>by
  obtain⟨m,ob,e1,_,e2,_⟩:=hB g hg'
  exact blk_F hs e1 e2
 have hout:Out F w w':=⟨hg.size,fun b hb hn=>hg.block b hb fun e=>hn (hBF b e.symm)⟩
 have hl:Cx.Le w F G:=⟨fun b hb=>by
   rcases hb with hb|hb
   ·exact .inl hb
   ·rcases hblk with h|h|h
    ·rw[h] at hb;exact .inl (hBF b hb)
    ·rw[h] at hb;right;have:w.heap.size=b:=by simpa using hb
     omega
    ·rw[h] at hb;exact absurd hb (by simp),fun k b hk=>hk,fun m y hk=>by
   have:m.root≠s.nx:=fun e=>by rw[(hs.nx m (by omega)).2] at hk;cases hk
   rw[hGW m this];exact hk⟩
 have hG: ∀b,F.F b→G.F b:=fun b hb=> .inl hb
 have hv'lt: ∀g,v'.ownBlock=some g→g<w'.heap.size:=fun g hg'=>(hown.lt g hg').2
 have hnames: ∀m o,Hget [(s.nx, .row el c)] m=some o→(m= .r s.nx∧o= .row el c)∨ ∃i j ty t q,m= .c s.nx i j∧o= .row ty t∧i<N∧j<sz∧(cc i).cell j= .own ty t q:=by
  intro m o hm
  cases m with
  |r q=>
   simp only[Hget,Hroot] at hm
   split at hm
   ·rename_i e;subst e;exact .inl ⟨rfl,by simpa using hm.symm⟩
   ·cases hm
  |c q i j=>
   have hq:=Hget_one hm
   simp only[Nm.root] at hq
   subst hq
   obtain⟨ty0,s0,sz0,n0,cc0,ty,t,q',hr0,he0,hi,hj,hcell,rfl⟩:=Hget_c hm
   simp only[Hroot,if_true,Option.some.injEq,Ob.row.injEq] at hr0
   obtain⟨rfl,rfl⟩:=hr0
   rw[he] at he0
   obtain⟨rfl,rfl,rfl⟩:sz=sz0∧N=n0∧cc=cc0:=by simpa using he0
   exact .inr ⟨i,j,ty,t,q',rfl,rfl,hi,hj,hcell⟩
 have hGc: ∀i j m,τ i j=some m→G.W (.c s.nx i j)=F.W m:=fun i j m e=>by simp[G,e]
 have hblkc: ∀i j ty t q g,i<N→j<sz→(cc i).cell j= .own ty t q→G.blk (.c s.nx i j) (.row ty t)=some g→ ∃m,τ i j=some m∧Hget s.h m=some (.row ty t)∧m.root∈ks∧F.blk m (.row ty t)=some g:=by
  intro i j ty t q g hi hj hcell hb
  rcases hc i hi j hj ty t q hcell with ⟨m,e1,e2,e3,_⟩|⟨e1,_⟩
  ·refine⟨m,e1,e2,e3,?_⟩
   simp only[Cx.blk,hGc i j m e1] at hb⊢
   exact hb
  ·simp[Cx.blk,G,e1,Value.ownBlock] at hb
 have hnotB: ∀m ob g,Hget s.h m=some ob→F.blk m ob=some g→(∃i j,τ i j=some m)→B≠some g:=by
  intro m ob g e1 e2 ⟨i,j,e3⟩ hBg
  obtain⟨m',ob',f1,_,f2,f3⟩:=hB g hBg
  exact f3 i j m e3 (hs.sep m m' ob ob' g e1 f1 e2 f2)
 have hvB: ∀g,v'.ownBlock=some g→B=some g∨g=w.heap.size:=fun g hg'=>by
  rcases hblk with h|h|h
  ·rw[h] at hg';exact .inl hg'
  ·rw[h] at hg';right;exact(by simpa using hg'.symm)
  ·rw[h] at hg';cases hg'
 refine⟨G,hs.new (h1:=HdelK s.h ks) (fun m o h=>(Hget_delK h).1) hout ⟨hg.os.trans hs.ev.os,hg.tape.trans hs.ev.tape,hg.output.trans hs.ev.output,Nat.le_trans hs.ev.size hg.size,fun b hb hX=> ?_⟩ hl hG (fun k hk=>rfl) hGW (fun b hb=> ?_) (fun m o g hm hg'=> ?_) (fun m o hm=> ?_) (fun m o g hm hg'=> ?_) (fun m m' o o' g hm hm' hg' hg2=> ?_) (fun m y hm hy=> ?_) hd (.ro _ _ (by simp[G])),fun js=>⟨⟨hg.size,hout.block,fun k ty v2 b hk hO j _=> ?_,fun h=>by cases h⟩,hl.lo,hbx_cons hs (hbx_delK hnb) _⟩⟩
 ·refine(hg.block b (Nat.lt_of_lt_of_le hb hs.ev.size) fun e=> ?_).trans (hs.ev.block b hb hX)
  obtain⟨m,ob,e1,_,e2,_⟩:=hB b e.symm
  rcases hs.own2 m ob b e1 e2 with h|h
  ·omega
  ·exact hX h
 ·rcases hb with hb|hb
  ·exact Nat.lt_of_lt_of_le (hs.flt b hb) hg.size
  ·exact hv'lt b hb
 ·obtain⟨q1,q2⟩:=Hget_delK hm
  refine hg.block g (blk_lt hs q1 hg') fun e=> ?_
  obtain⟨m',ob',f1,f2,f3,_⟩:=hB g e.symm
  exact q2 (by rw[hs.sep m m' o ob' g q1 f1 hg' f3];exact f2)
 ·rcases hnames m o hm with ⟨rfl,rfl⟩|⟨i,j,ty,t,q,rfl,rfl,hi,hj,hcell⟩
  ·refine⟨v',sz,N,cc,u,XS,by simp[G],he,hown,hu,fun i hi j hj=> ?_,h1,fun g hg'=> .inr hg'⟩
   unfold refV
   split
   ·rename_i ty t q hcell
    simp only
    rcases hc i hi j hj ty t q hcell with ⟨m,e1,e2,e3,e4⟩|⟨e1,rfl,e3,e4⟩
    ·cases q with
     |none=>exact .ro _ _ ((hGc i j m e1).trans (rep_ro e4))
     |some n=>
      simp only[ownR] at e4
      simp only
      split
      ·rename_i z _ _ hz
       simp only[hz] at e4
       obtain⟨A,N',cap,B',hW,hn,hB',e5⟩:=rep_vw e4
       rw[e5]
       exact .vw _ _ _ _ N' cap A B' ((hGc i j m e1).trans hW) ⟨hn,hB'⟩
      ·exact .any _
    ·simp only
     rw[e3]
     exact .ro _ _ (by simp[G,e1])
   ·rename_i hne
    exact((hr i hi j hj fun ty t q e=>hne ty t q e).le hl).out (hout.le hG)
  ·rcases hc i hi j hj ty t q hcell with ⟨m,e1,e2,e3,e4⟩|⟨e1,rfl,e3,z,f,e4⟩
   ·have hok:=hs.own m _ e2
    refine hok.move hout hl hG (fun g hg'=> ?_) (fun ty' v e=>by cases e) (fun y hy=>(hGc i j m e1).trans hy) (fun q q' _ e=>by cases e) (fun q i' j' e=>⟨_,_,_,rfl⟩)
    exact hg.block g (blk_lt hs e2 hg') fun e=>hnotB m _ g e2 hg' ⟨i,j,e1⟩ e.symm
   ·exact⟨.slice none 0 0,z,0,f,fun _ _=>undef,[],by simp[G,e1],e4,World.ownsRow_nil _ _ _ _,fun i hi=>by omega,fun i hi=>by omega,fun y hy=>by simp at hy,fun g hg'=>by simp[Value.ownBlock] at hg'⟩
 ·rcases hnames m o hm with ⟨rfl,rfl⟩|⟨i,j,ty,t,q,rfl,rfl,hi,hj,hcell⟩
  ·have hg2:v'.ownBlock=some g:=by simpa [Cx.blk,G] using hg'
   rcases hvB g hg2 with h|rfl
   ·obtain⟨m',ob',f1,f2,f3,f4⟩:=hB g h
    exact⟨hs.own2 m' ob' g f1 f3,hs.own3 m' ob' g f1 f3,fun k o hk hg3=>by
     obtain⟨q1,q2⟩:=Hget_delK hk
     exact q2 (by rw[hs.sep k m' o ob' g q1 f1 hg3 f3];exact f2)⟩
   ·exact⟨.inl hs.ev.size,fun hF=>by have:=hs.flt _ (hs.fold _ hF);omega,fun k o hk hg3=>by have:=blk_lt hs (Hget_delK hk).1 hg3;omega⟩
  ·obtain⟨m',e1,e2,e3,e4⟩:=hblkc i j ty t q g hi hj hcell hg'
   exact⟨hs.own2 m' _ g e2 e4,hs.own3 m' _ g e2 e4,fun k o hk hg3=>by
    obtain⟨q1,q2⟩:=Hget_delK hk
    exact q2 (by rw[hs.sep k m' o _ g q1 e2 hg3 e4];exact e3)⟩
 ·rcases hnames m o hm with ⟨rfl,rfl⟩|⟨i,j,ty,t,q,rfl,rfl,hi,hj,hcell⟩
  ·rcases hnames m' o' hm' with ⟨rfl,rfl⟩|⟨i',j',ty',t',q',rfl,rfl,hi',hj',hcell'⟩
   ·rfl
   ·exfalso
    obtain⟨m',e1,e2,e3,e4⟩:=hblkc i' j' ty' t' q' g hi' hj' hcell' hg2
    have hg3:v'.ownBlock=some g:=by simpa [Cx.blk,G] using hg'
    rcases hvB g hg3 with h|rfl
    ·exact hnotB m' _ g e2 e4 ⟨i',j',e1⟩ h
    ·have:=blk_lt hs e2 e4;omega
  ·rcases hnames m' o' hm' with ⟨rfl,rfl⟩|⟨i',j',ty',t',q',rfl,rfl,hi',hj',hcell'⟩
   ·exfalso
    obtain⟨m',e1,e2,e3,e4⟩:=hblkc i j ty t q g hi hj hcell hg'
    have hg3:v'.ownBlock=some g:=by simpa [Cx.blk,G] using hg2
    rcases hvB g hg3 with h|rfl
    ·exact hnotB m' _ g e2 e4 ⟨i,j,e1⟩ h
    ·have:=blk_lt hs e2 e4;omega
   ·obtain⟨m1,e1,e2,e3,e4⟩:=hblkc i j ty t q g hi hj hcell hg'
    obtain⟨m2,f1,f2,f3,f4⟩:=hblkc i' j' ty' t' q' g hi' hj' hcell' hg2
    have:=hs.sep m1 m2 _ _ g e2 f2 e4 f4
    subst this
    obtain⟨rfl,rfl⟩:=hτ i j i' j' m1 e1 f1
    rfl
 ·cases m with
  |r q=>
   simp only[Nm.root] at hm
   subst hm
   simp only[G,if_true,Option.some.injEq] at hy
   subst hy
   obtain⟨A,cap,rfl,_⟩:=row_val hown
   exact⟨_,_,_,rfl⟩
  |c q i j=>
   simp only[Nm.root] at hm
   subst hm
   simp only[G,if_true] at hy
   split at hy
   ·exact hs.wsl _ y hy
   ·simp only[Option.some.injEq] at hy
    exact⟨_,_,_,hy.symm⟩
 ·refine World.cell?_of_block (a:=⟨b,j,none⟩) (hg.block b (blk_lt hs hk hO) fun e=> ?_)
  obtain⟨m',ob',f1,f2,f3,_⟩:=hB b e.symm
  have:=hs.sep (.r k) m' _ ob' b hk f1 hO f3
  subst this
  exact noBox_ok hnb k f2 ty v2 hk
end
end Go.Proofs.YtfengpdaocgcnaaGreatDoor
