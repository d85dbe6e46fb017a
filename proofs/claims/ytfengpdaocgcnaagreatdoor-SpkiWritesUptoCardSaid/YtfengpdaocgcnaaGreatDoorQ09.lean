/- One's own memory: append, that it does (all). Statements that draw their order: an operation may be taken first where nothing that can come before it changes what it reads. (After the kit's wpAnyH, with a relation for each operation in the place of one condition.). -/
import Derived.Test.YtfengpdaocgcnaaGreatDoorQ08
import Derived.Lib.AppendStr
import Derived.OrdersHeld
namespace Go.Proofs.YtfengpdaocgcnaaGreatDoor
open Go.RowKit
section
variable {P:Program} {x:Fx} {F:Cx} {w w':World} {a:Act} {s:S}
theorem st_one {l:List V} {u:Nat→Value} (hr: ∀j,j<l.length→Rep w F (l.getD j .any) (u j)) (h1: ∀j,j<l.length→(u j).oneCell'=true): ∀q∈l,∀l',q≠ .st l':=by
 intro q hq l' e
 obtain⟨j,hj,rfl⟩:=List.getElem_of_mem hq
 have h2:=hr j hj
 rw[List.getD_eq_getElem?_getD,List.getElem?_eq_getElem hj,Option.getD_some,e] at h2
 obtain⟨cs,_,e2,_⟩:=rep_st h2
 have:=h1 j hj
 rw[e2] at this
 simp[Value.oneCell'] at this
theorem app_cells {xs news:List Value} {n m sz:Nat} {u1 u:Nat→Nat→Value} (hxl:xs.length=n*sz) (hc1: ∀i,i<n→ ∀j,j<sz→xs[i*sz+j]?=some (u1 i j)) (r6: ∀i,i<m→ ∀j,j<sz→news[i*sz+j]?=some (u i j)):
  ∀i,i<n+m→ ∀j,j<sz→(xs++news)[i*sz+j]?=some (if i<n then u1 i j else u (i-n) j):=by
 intro i hi j hj
 by_cases hin:i<n
 ·have:i*sz+j<xs.length:=by
   rw[hxl]
   have:(i+1)*sz≤n*sz:=Nat.mul_le_mul_right _ hin
   rw[Nat.add_mul] at this;omega
  rw[List.getElem?_append_left this,hc1 i hin j hj,if_pos hin]
 ·have h0:n*sz≤i*sz:=Nat.mul_le_mul_right _ (by omega)
  rw[List.getElem?_append_right (by rw[hxl];omega),hxl,if_neg hin]
  have:=r6 (i-n) (by omega) j hj
  rw[Nat.sub_mul] at this
  rw[←this];congr 1;omega
theorem append_types {t t' ty el:TypeId} {x y:Value} (h:P.underlying t'=P.underlying t) (ht:P.underlying t=some (.slice el)):(Builtin.append_ #[t,t'] ty #[x,y]).run P w=(Builtin.append_ #[t,t] ty #[x,y]).run P w:=by
 have ht':P.underlying t'=some (.slice el):=h.trans ht
 have e1:=fun w=>run_underlying (P:=P) (w:=w) ht
 have e2:=fun w=>run_underlying (P:=P) (w:=w) ht'
 unfold Builtin.append_
 cases x<;>simp[e1,e2]
theorem vappend_ty {s:S} {d:Option Nat} {t:TypeId} {p q:V} {r:List Prop×S} (h:vappend P s d t p q=some r): ∃el,P.underlying t=some (.slice el):=by
 unfold vappend at h
 split at h
 ·rename_i el ht;exact⟨el,ht⟩
 ·cases h
theorem vappend_ok (hs:Sat x s F a w) {d:Option Nat} {t ty:TypeId} {p q:V} {y z:Value} {l:List Prop} {s':S} (h:vappend P s d t p q=some (l,s')) (hl:AllP l) (hd: ∀k,d=some k→k<x.n) (hp:Rep w F p y) (hq:Rep w F q z):
  ∃r w' G,(Builtin.append_ #[t,t] ty #[y,z]).run P w= .ok r w'∧Sat x s' G (a.put d r) w'∧ ∀js,Stp js s.h s'.h F G w w':=by
 unfold vappend at h
 split at h
 rotate_left
 ·cases h
 rename_i el ht
 split at h
 rotate_left
 ·cases h
 rename_i sz bs hri
 obtain⟨i,zz,hi,hz,hsz,hby,hzs,hszp⟩:=rowInfo_ok hri
 split at h
 ·cases h
 rename_i hbs
 have hbp:0<bs:=by omega
 split at h
 ·
  rename_i l0 h1 h2
  obtain⟨rfl,rfl⟩:=some_pair h
  obtain rfl:=vdst_nil h1
  obtain⟨rfl,rfl⟩:=vsrc_nil h2
  obtain rfl:=rep_val hp
  obtain rfl:=rep_val hq
  exact⟨_,w,F,by simp[Builtin.append_,run_underlying ht,sizeOf,typeInfo,hi,Builtin.lenOf,Builtin.firstCells],hs.put hd (.val _),fun js=>Stp.refl js s.h F w⟩
 ·rename_i k c1 l0 h1 h2
  obtain⟨rfl,rfl⟩:=some_pair h
  obtain⟨rfl,hk⟩:=vdst_row h1
  obtain⟨rfl,rfl⟩:=vsrc_nil h2
  obtain rfl:=rep_val hq
  obtain⟨x1,sz',n,cc,u,xs,hW,he,hown,hc,hr,hone,hF⟩:=hs.own _ _ hk
  have hy:=rep_ro hp
  rw[hW] at hy
  obtain rfl:x1=y:=by simpa using hy
  obtain⟨A,cap,rfl,hcap,hA⟩:=row_val hown
  refine⟨_,w,F,?_,hs.put hd hp,fun js=>Stp.refl js s.h F w⟩
  cases A<;>simp[Builtin.append_,run_underlying ht,sizeOf,typeInfo,hi,Builtin.lenOf,Builtin.firstCells,hcap,storeCells]
 ·rename_i l0 c2 k2 h1 h2
  obtain rfl:=vdst_nil h1
  obtain rfl:=rep_val hp
  split at h
  rotate_left
  ·cases h
  rename_i sz2 m0 _ he0
  split at h
  rotate_left
  ·cases h
  rename_i hcnd
  obtain⟨rfl,hnb⟩:=hcnd
  obtain⟨rfl,rfl⟩:=some_pair h
  have hb:=int_le (allP_head hl)
  obtain⟨A,sz3,m,cap,b,off,cc,u,rfl,he,hA,hc,hsr⟩:=vsrc_ok hs h2 (allP_tail hl) hq
  rw[he] at he0
  obtain⟨rfl,rfl,_⟩:sz3=sz2∧m=m0∧_:=by simpa using he0
  obtain⟨v',w',news,r1,r2,r3,r4,r5,r6,r7⟩:=append_run (P:=P) (ty:=ty) (n:=0) ht hri (World.ownsRow_nil w 0 el sz3) hA hc (by rw[Nat.zero_add];exact hb) hbp (cap:=cap)
  rw[Nat.zero_add,List.nil_append] at r2
  cases k2 with
  |none=>
   obtain⟨G,hG⟩:=row_new (ks:=[]) (τ:=fun _ _=>none) hs hd r2 he r3 rfl (fun g hg=>by simp[Value.ownBlock] at hg) (by simp only[Value.ownBlock] at r4⊢;rcases r4 with h|h;exact .inl h;exact .inr (.inl h)) r6 r7 (fun i hi j hj _=>hsr i hi j hj) (fun i hi j hj ty t q e=>absurd e (rep_not_own (hsr i hi j hj) ty t q)) (fun i j i' j' m e=>by cases e)
   exact⟨v',w',G,r1,hG⟩
  |some k2=>
   obtain⟨ty2,hk2,hr2⟩:=hsr
   obtain⟨G,hG⟩:=row_new (ks:=[k2]) (τ:=fun i j=>some (.c k2 i j)) hs hd r2 he r3 hnb (fun g hg=>by simp[Value.ownBlock] at hg) (by simp only[Value.ownBlock] at r4⊢;rcases r4 with h|h;exact .inl h;exact .inr (.inl h)) r6 r7 (fun i hi j hj hn=>(own_cell hk2 he hr2 hi hj).1 hn) (fun i hi j hj ty t q e=>by
    obtain⟨q1,q2⟩:=(own_cell hk2 he hr2 hi hj).2 ty t q e
    exact .inl ⟨_,rfl,q1,List.mem_cons_self ..,q2⟩) (fun i j i' j' m e e'=>by
     simp only[Option.some.injEq] at e e'
     subst e
     injection e' with _ e1 e2
     exact⟨e1.symm,e2.symm⟩)
   exact⟨v',w',G,r1,hG⟩
 ·rename_i k c1 l0 c2 k2 h1 h2
  obtain⟨rfl,hk⟩:=vdst_row h1
  split at h
  rotate_left
  ·cases h
  rename_i c3 l1 ks hap
  split at h
  rotate_left
  ·cases h
  rename_i sz1 _ _ he1
  split at h
  rotate_left
  ·cases h
  rename_i hcnd
  obtain⟨rfl,hnb⟩:=hcnd
  obtain⟨rfl,rfl⟩:=some_pair h
  obtain⟨hl01,hl1⟩:=allP_app (l:=_::l0) hl
  have hb:=int_le (allP_head hl01)
  obtain⟨x1,sz',n,cc1,u1,xs,hW,he,hown,hc1,hr1,hone,hF⟩:=hs.own _ _ hk
  have hy:=rep_ro hp
  rw[hW] at hy
  obtain rfl:x1=y:=by simpa using hy
  rw[he] at he1
  obtain⟨rfl, -, -⟩:sz'=sz1∧_∧_:=by simpa using he1
  obtain⟨A,sz2,m,cap,b,off,cc,u,rfl,he2,hA,hc,hsr⟩:=vsrc_ok hs h2 (allP_tail hl01) hq
  have hblkk:F.blk (.r k) (.row el c1)=x1.ownBlock:=by simp[Cx.blk,hW]
  have hxl:=hown.1
  have main: ∀(c4:Nat→V) (τ:Nat→Nat→Option Nm),sz'=sz2→c3.elems=some (sz',n+m,c4)→k∈ks→(∀i j m',τ i j=some m'→m'≠ .r k)→(∀i j i' j' m,τ i j=some m→τ i' j'=some m→i=i'∧j=j')→
    (∀i,i<n→c4 i=cc1 i)→(∀i j,i<n→τ i j=some (.c k i j))→
    (∀i,i<m→ ∀j,j<sz'→(∀ty t q,(c4 (n+i)).cell j≠ .own ty t q)→Rep w F ((c4 (n+i)).cell j) (u i j))→
    (∀i,i<m→ ∀j,j<sz'→ ∀ty t q,(c4 (n+i)).cell j= .own ty t q→(∃m',τ (n+i) j=some m'∧Hget s.h m'=some (.row ty t)∧m'.root∈ks∧Rep w F (ownR m' t q) (u i j))∨(τ (n+i) j=none∧q=none∧u i j= .slice none 0 0∧ ∃z f,t.elems=some (z,0,f)))→
    ∃r w' G,(Builtin.append_ #[t,t] ty #[x1, .slice A m cap]).run P w= .ok r w'∧Sat x ⟨s.e.put d (.ro (.r s.nx)),(s.nx, .row el c3)::HdelK s.h ks,s.nx+1⟩ G (a.put d r) w'∧ ∀js,Stp js s.h ((s.nx, .row el c3)::HdelK s.h ks) F G w w':=by
   intro c4 τ hszz he4 hkk hτk hτ h41 hτ1 hnew hown2
   subst hszz
   have hlen:c3.len=n+m:=by simp[V.len,he4]
   rw[hlen] at hb
   obtain⟨v',w',news,r1,r2,r3,r4,r5,r6,r7⟩:=append_run (P:=P) (ty:=ty) ht hri hown hA hc hb hbp (cap:=cap)
   have q1:=app_cells hxl hc1 r6
   have hA1: ∀i,i<n+m→ ∀j,j<sz'→(∀ty t q,(c4 i).cell j≠ .own ty t q)→Rep w F ((c4 i).cell j) (if i<n then u1 i j else u (i-n) j):=by
    intro i hi j hj hn
    by_cases hin:i<n
    ·rw[if_pos hin]
     rw[h41 i hin] at hn⊢
     exact(own_cell hk he hr1 hin hj).1 hn
    ·rw[if_neg hin]
     have e:n+(i-n)=i:=by omega
     have:=hnew (i-n) (by omega) j hj
     rw[e] at this
     exact this hn
   have hA2: ∀i,i<n+m→ ∀j,j<sz'→ ∀ty' t' q',(c4 i).cell j= .own ty' t' q'→(∃m,τ i j=some m∧Hget s.h m=some (.row ty' t')∧m.root∈ks∧Rep w F (ownR m t' q') (if i<n then u1 i j else u (i-n) j))∨(τ i j=none∧q'=none∧(if i<n then u1 i j else u (i-n) j)= .slice none 0 0∧ ∃z f,t'.elems=some (z,0,f)):=by
    intro i hi j hj ty' t' q' e
    by_cases hin:i<n
    ·rw[if_pos hin]
     rw[h41 i hin] at e
     obtain⟨q2,q3⟩:=(own_cell hk he hr1 hin hj).2 ty' t' q' e
     exact .inl ⟨_,hτ1 i j hin,q2,hkk,q3⟩
    ·rw[if_neg hin]
     have e':n+(i-n)=i:=by omega
     have:=hown2 (i-n) (by omega) j hj ty' t' q'
     rw[e'] at this
     exact this e
   obtain⟨G,hG⟩:=row_new (ks:=ks) (τ:=τ) (u:=fun i j=>if i<n then u1 i j else u (i-n) j) hs hd r2 he4 r3 hnb (fun g hg=>⟨.r k,_,hk,hkk,by rw[hblkk];exact hg,hτk⟩) (by rcases r4 with h|h;exact .inl h;exact .inr (.inl h)) q1 (fun y hy=>by
     rcases List.mem_append.1 hy with h|h
     ·exact hone y h
     ·exact r7 y h) hA1 hA2 hτ
   exact⟨v',w',G,r1,hG⟩
  cases k2 with
  |none=>
   simp only[apC] at hap
   split at hap
   rotate_left
   ·cases hap
   rename_i c3' happ
   simp only[Option.some.injEq,Prod.mk.injEq] at hap
   obtain⟨rfl,rfl,rfl⟩:=hap
   obtain⟨rfl,c4,he4,h41,h42⟩:=app_ok happ he he2
   refine main c4 (fun i j=>if i<n then some (.c k i j) else none) rfl he4 (List.mem_cons_self ..) (fun i j m' e=> ?_) (fun i j i' j' m e e'=> ?_) h41 (fun i j hi=>if_pos hi) (fun i hi j hj _=>by rw[h42 i hi];exact hsr i hi j hj) (fun i hi j hj ty' t' q' e=> ?_)
   ·split at e
    ·simp only[Option.some.injEq] at e;subst e;simp
    ·cases e
   ·split at e
    ·split at e'
     ·simp only[Option.some.injEq] at e e'
      subst e
      injection e' with _ e1 e2
      exact⟨e1.symm,e2.symm⟩
     ·cases e'
    ·cases e
   ·rw[h42 i hi] at e
    exact absurd e (rep_not_own (hsr i hi j hj) _ _ _)
  |some k2=>
   obtain⟨ty2,hk2,hr2⟩:=hsr
   simp only[apC] at hap
   split at hap
   ·rename_i szA dA lA szB dB v
    split at hap
    rotate_left
    ·cases hap
    rename_i u' ps kk hnr
    split at hap
    rotate_left
    ·cases hap
    rename_i hcv
    obtain⟨rfl,hvs,hvc,hno⟩:=hcv
    simp only[Option.some.injEq,Prod.mk.injEq] at hap
    obtain⟨rfl,rfl,rfl⟩:=hap
    obtain⟨hps,hdf⟩:=allP_app hl1
    simp only[V.elems] at he he2
    split at he
    ·cases he
    rename_i hz0
    rw[if_neg hz0] at he2
    simp only[Option.some.injEq,Prod.mk.injEq,List.length_cons,List.length_nil] at he he2
    obtain⟨rfl,rfl,rfl⟩:=he
    obtain⟨rfl,rfl,rfl⟩:=he2
    have hdk:AllP (diffs (k2::keyL kk)):=(allP_app (l:=neqs k (k2::keyL kk)) hdf).2
    have hkk: ∀k',k'∈k2::keyL kk→k≠k':=neqs_ok (allP_app (l:=neqs k (k2::keyL kk)) hdf).1
    have hdk2:AllP (diffs (keyL kk)):=(allP_app (l:=neqs k2 (keyL kk)) hdk).2
    have hcell: ∀j,j<szA→Rep w F (v.cell j) (u 0 j):=fun j hj=>by
     have hn: ∀ty t q,v.cell j≠ .own ty t q:=noOwn_cell hno j
     have:=(own_cell (cc:=fun i=>[v].getD i dB) hk2 (by simp only[V.elems,if_neg hz0];rfl) hr2 (i:=0) (by simp) hj).1 hn
     exact this
    have hone0: ∀j,j<szA→(u 0 j).oneCell'=true:=fun j hj=>(hc 0 (by simp) j hj).2
    have hnr2:=nrm_ok (s:=s) (y:=u 0) hnr hps (fun j hj=>hcell j (by omega)) (fun l e=>by
     subst e
     exact st_one (u:=u 0) (fun j hj=>hcell j (by rw[←hvc];exact hj)) (fun j hj=>hone0 j (by rw[←hvc];exact hj)))
    refine main (fun i=>(lA++[u']).getD i dA) (fun i j=>if i<lA.length then some (.c k i j) else if i=lA.length then (kk.getD j none).map Nm.r else none) rfl (by simp only[V.elems,if_neg hz0,List.length_append,List.length_cons,List.length_nil]) (List.mem_cons_self ..) (fun i j m' e=> ?_) (fun i j i' j' m e e'=> ?_) (fun i hi=>by show(lA++[u']).getD i dA=lA.getD i dA;rw[List.getD_eq_getElem?_getD,List.getD_eq_getElem?_getD,List.getElem?_append_left hi]) (fun i j hi=>if_pos hi) (fun i hi j hj hn=> ?_) (fun i hi j hj ty' t' q' e=> ?_)
    ·split at e
     ·simp only[Option.some.injEq] at e;subst e;simp
     ·split at e
      ·cases hkj:kk.getD j none with
       |none=>rw[hkj] at e;cases e
       |some k'=>
        rw[hkj] at e
        simp only[Option.map_some,Option.some.injEq] at e
        subst e
        intro e2
        injection e2 with e2
        exact hkk k' (List.mem_cons_of_mem _ (keyL_mem hkj)) e2.symm
      ·cases e
    ·have kr: ∀i j m,(if i<lA.length then some (Nm.c k i j) else if i=lA.length then (kk.getD j none).map Nm.r else none)=some m→(m= .c k i j)∨(i=lA.length∧ ∃k',kk.getD j none=some k'∧m= .r k'):=fun i j m e=>by
      split at e
      ·simp only[Option.some.injEq] at e;exact .inl e.symm
      ·split at e
       ·rename_i hi
        cases hkj:kk.getD j none with
        |none=>rw[hkj] at e;cases e
        |some k'=>
         rw[hkj] at e
         simp only[Option.map_some,Option.some.injEq] at e
         exact .inr ⟨hi,k',rfl,e.symm⟩
       ·cases e
     rcases kr i j m e with rfl|⟨h1,k',h2,rfl⟩
     ·rcases kr i' j' _ e' with h|⟨_,_,_,h⟩
      ·injection h with _ e1 e2;exact⟨e1,e2⟩
      ·cases h
     ·rcases kr i' j' _ e' with h|⟨h3,k'',h4,h5⟩
      ·cases h
      ·injection h5 with h5
       subst h5
       exact⟨by omega,keyL_inj hdk2 h2 h4⟩
    ·obtain rfl:i=0:=by omega
     have e0:(lA++[u']).getD (lA.length+0) dA=u':=by simp
     simp only[e0] at hn⊢
     rcases hnr2 j (by omega) with ⟨_,h⟩|⟨ty',t',q',h,_⟩
     ·exact h
     ·exact absurd h (hn _ _ _)
    ·obtain rfl:i=0:=by omega
     have e0:(lA++[u']).getD (lA.length+0) dA=u':=by simp
     simp only[e0] at e
     have eτ:(if lA.length+0<lA.length then some (Nm.c k (lA.length+0) j) else if lA.length+0=lA.length then (kk.getD j none).map Nm.r else none)=(kk.getD j none).map Nm.r:=by simp
     simp only[eτ]
     rcases hnr2 j (by omega) with ⟨h,_⟩|⟨ty3,t3,q3,h,h2⟩
     ·exact absurd e (h _ _ _)
     ·rw[e] at h
      obtain⟨rfl,rfl,rfl⟩:ty'=ty3∧t'=t3∧q'=q3:=by simpa using h
      rcases h2 with ⟨k',g1,g2,g3⟩|⟨g1,g2,g3,g4⟩
      ·exact .inl ⟨.r k',by rw[g1];rfl,g2,List.mem_cons_of_mem _ (List.mem_cons_of_mem _ (keyL_mem g1)),g3⟩
      ·exact .inr ⟨by rw[g1];rfl,g2,g3,g4⟩
   ·split at hap
    rotate_left
    ·cases hap
    rename_i c3' happ
    simp only[Option.some.injEq,Prod.mk.injEq] at hap
    obtain⟨rfl,rfl,rfl⟩:=hap
    have hne:k≠k2:=allP_head hl1
    obtain⟨rfl,c4,he4,h41,h42⟩:=app_ok happ he he2
    refine main c4 (fun i j=>if i<n then some (.c k i j) else some (.c k2 (i-n) j)) rfl he4 (List.mem_cons_self ..) (fun i j m' e=> ?_) (fun i j i' j' m e e'=> ?_) h41 (fun i j hi=>if_pos hi) (fun i hi j hj hn=> ?_) (fun i hi j hj ty' t' q' e=> ?_)
    ·split at e<;>(simp only[Option.some.injEq] at e;subst e;simp)
    ·split at e
     ·split at e'
      ·simp only[Option.some.injEq] at e e'
       subst e
       injection e' with _ e1 e2
       exact⟨e1.symm,e2.symm⟩
      ·simp only[Option.some.injEq] at e e'
       subst e
       injection e' with e0
       exact absurd e0.symm hne
     ·split at e'
      ·simp only[Option.some.injEq] at e e'
       subst e
       injection e' with e0
       exact absurd e0 hne
      ·simp only[Option.some.injEq] at e e'
       subst e
       injection e' with _ e1 e2
       exact⟨by omega,e2.symm⟩
    ·rw[h42 i hi] at hn⊢
     exact(own_cell hk2 he2 hr2 hi hj).1 hn
    ·rw[h42 i hi] at e
     obtain⟨q2,q3⟩:=(own_cell hk2 he2 hr2 hi hj).2 ty' t' q' e
     exact .inl ⟨.c k2 i j,by rw[if_neg (by omega),Nat.add_sub_cancel_left],q2,List.mem_cons_of_mem _ (List.mem_cons_self ..),q3⟩
 ·cases h
def zeroU (P:Program) (el:TypeId):Prop:=(P.info? el).bind (·.zero)=some (.int .u8 0)
def vappS (P:Program) (s:S) (d:Option Nat) (t t':TypeId) (p q:V):Option (List Prop×S):=
 match P.underlying t,P.underlying t',q with
 |some (.slice el),some .string, .str b=>match rowInfo P el with
  |some (1,1)=>match vdst s.h el p with
   |some none=>some ([zeroU P el,(b.length:Int)≤140737488355328],⟨s.e.put d (.ro (.r s.nx)),(s.nx, .row el (.by b))::HdelK s.h [],s.nx+1⟩)
   |some (some (k, .by l))=>if noBox s.h [k]=true then some ([zeroU P el,((l++b).length:Int)≤140737488355328],⟨s.e.put d (.ro (.r s.nx)),(s.nx, .row el (.by (l++b)))::HdelK s.h [k],s.nx+1⟩) else none
   |_=>none
  |_=>none
 |_,_,_=>none
theorem append_runS {t u ty el:TypeId} {i:TypeInfo} {n:Nat} {v:Value} {xs:List Value} (ht:P.underlying t=some (.slice el)) (hu:P.underlying u=some .string) (hi:P.info? el=some i) (hz:i.zero=some (.int .u8 0)) (hsize:i.size=1) (hby:i.bytes=1)
  (hown:w.ownsRow 0 el 1 v n xs) (s:ByteArray) (hb:n+s.size≤140737488355328):
  ∃v' w',(Builtin.append_ #[t,u] ty #[v, .string s]).run P w= .ok v' w'∧w'.ownsRow 0 el 1 v' (n+s.size) (xs++Lib.strCells s)∧w.grownBy w' v.ownBlock∧(v'.ownBlock=v.ownBlock∨v'.ownBlock=some w.heap.size):=by
 obtain⟨v',w',h1,h2,h3,h4⟩:=Lib.run_append_own_string (P:=P) w 0 t u ty el i ht hu hi hz hsize hby v n xs hown s (by unfold maxLen;omega) hb (Nat.zero_le _)
 refine⟨v',w',h1,h2,h3,?_⟩
 have hxl:xs.length=n:=by simpa using hown.1
 rcases hown.2 with ⟨rfl,rfl⟩|⟨g,cap,cur,rfl,hbg,hg,hnc,hcm,hcs,htake⟩
 ·by_cases hm:s.size=0
  ·rw[h4.2 ⟨rfl,hm⟩];exact .inl rfl
  ·have hr:=run_append_nil_string (P:=P) w t u ty el i (.int .u8 0) ht hu hi hz s (by omega) (by omega) (by rw[hby];omega)
   rw[hr] at h1
   injection h1 with h1
   subst h1
   exact .inr rfl
 ·by_cases hroom:n+s.size≤cap
  ·have hcz:cur.size=cap:=by simpa using hcs
   have hr:=Lib.run_append_room_string (P:=P) w t u ty el i ht hu hi hsize g n cap cur hg s hroom (by omega)
   rw[hr] at h1
   injection h1 with h1
   subst h1
   exact .inl rfl
  ·have hr:=Lib.run_append_grow_string (P:=P) w t u ty el i (.int .u8 0) ht hu hi hz ⟨g,0,none⟩ n cap xs (by rw[hsize];simpa using hxl) (hown.cells (g:=g) rfl) s (by omega) (by omega) (by rw[hby];exact growslice_fits (by omega) (by omega))
   rw[hr] at h1
   injection h1 with h1
   subst h1
   exact .inr rfl
theorem vappS_ok (hs:Sat x s F a w) {d:Option Nat} {t t' ty:TypeId} {p q:V} {y z:Value} {l:List Prop} {s':S} (h:vappS P s d t t' p q=some (l,s')) (hl:AllP l) (hd: ∀k,d=some k→k<x.n) (hp:Rep w F p y) (hq:Rep w F q z):
  ∃r w' G,(Builtin.append_ #[t,t'] ty #[y,z]).run P w= .ok r w'∧Sat x s' G (a.put d r) w'∧ ∀js,Stp js s.h s'.h F G w w':=by
 unfold vappS at h
 split at h
 rotate_left
 ·cases h
 rename_i el b ht ht'
 split at h
 rotate_left
 ·cases h
 rename_i hri
 obtain rfl:=rep_str hq
 obtain⟨i,zz,hi,hz,hsz,hby,hzs,hszp⟩:=rowInfo_ok hri
 have hzz:zeroU P el→i.zero=some (.int .u8 0):=fun h=>by
  unfold zeroU at h
  rw[hi] at h
  exact h
 have hss:(⟨b.toArray⟩:ByteArray).size=b.length:=by simp[ByteArray.size]
 have hst:Lib.strCells ⟨b.toArray⟩=b.map fun c=>Value.int .u8 c.toNat:=rfl
 have hby1: ∀l:List UInt8,(V.by l).elems=some (1,l.length,fun i=> .val (.int .u8 (byteAt l i))):=fun l=>rfl
 have hrep: ∀(l:List UInt8) (i j:Nat),(∀ty t q,(V.val (.int .u8 (byteAt l i))).cell j≠ .own ty t q):=fun l i j ty t q e=>by cases e
 split at h
 ·rename_i h1
  obtain⟨rfl,rfl⟩:=some_pair h
  obtain rfl:=vdst_nil h1
  obtain rfl:=rep_val hp
  have hz0:zeroU P el:=hl _ (by simp)
  have hb:(b.length:Int)≤140737488355328:=hl _ (by simp)
  obtain⟨v',w',r1,r2,r3,r4⟩:=append_runS (P:=P) (ty:=ty) ht ht' hi (hzz hz0) hsz hby (World.ownsRow_nil w 0 el 1) ⟨b.toArray⟩ (by rw[hss];omega)
  rw[Nat.zero_add,hss,List.nil_append,hst] at r2
  obtain⟨G,hG⟩:=row_new (ks:=[]) (τ:=fun _ _=>none) (u:=fun i _=> .int .u8 (byteAt b i)) hs hd r2 (hby1 b) r3 rfl (fun g hg=>by simp[Value.ownBlock] at hg) (by simp only[Value.ownBlock] at r4⊢;rcases r4 with h|h;exact .inl h;exact .inr (.inl h)) (fun i hi j hj=>by
   obtain rfl:j=0:=by omega
   simp[byteAt,hi,List.getD_eq_getElem?_getD]) (fun y hy=>by
   obtain⟨c,_,rfl⟩:=List.mem_map.1 hy
   rfl) (fun i hi j hj _=> .val _) (fun i hi j hj ty t q e=>absurd e (hrep b i j ty t q)) (fun i j i' j' m e=>by cases e)
  exact⟨v',w',G,r1,hG⟩
 ·rename_i k lb h1
  obtain⟨rfl,hk⟩:=vdst_row h1
  split at h
  rotate_left
  ·cases h
  rename_i hnb
  obtain⟨rfl,rfl⟩:=some_pair h
  have hz0:zeroU P el:=hl _ (by simp)
  have hb:((lb++b).length:Int)≤140737488355328:=hl (((lb++b).length:Int)≤140737488355328) (by simp)
  rw[List.length_append] at hb
  obtain⟨x1,sz',n,cc1,u1,xs,hW,he,hown,hc1,hr1,hone,hF⟩:=hs.own _ _ hk
  have hy:=rep_ro hp
  rw[hW] at hy
  obtain rfl:x1=y:=by simpa using hy
  rw[hby1] at he
  obtain⟨rfl,rfl,rfl⟩:1=sz'∧lb.length=n∧_:=by simpa using he
  have hblkk:F.blk (.r k) (.row el (.by lb))=x1.ownBlock:=by simp[Cx.blk,hW]
  have hxl:=hown.1
  obtain⟨v',w',r1,r2,r3,r4⟩:=append_runS (P:=P) (ty:=ty) ht ht' hi (hzz hz0) hsz hby hown ⟨b.toArray⟩ (by rw[hss];omega)
  rw[hss,hst,←List.length_append] at r2
  have hxc: ∀i,i<lb.length→xs[i]?=some (.int .u8 (byteAt lb i)):=fun i hi=>by
   have h2:=hc1 i hi 0 (by omega)
   rw[Nat.mul_one,Nat.add_zero] at h2
   rw[h2]
   have h3:=hr1 i hi 0 (by omega)
   exact congrArg some (rep_val h3)
  obtain⟨G,hG⟩:=row_new (ks:=[k]) (τ:=fun _ _=>none) (u:=fun i _=> .int .u8 (byteAt (lb++b) i)) hs hd r2 (hby1 (lb++b)) r3 hnb (fun g hg=>⟨.r k,_,hk,List.mem_cons_self ..,by rw[hblkk];exact hg,fun i j m' e=>by cases e⟩) (by rcases r4 with h|h;exact .inl h;exact .inr (.inl h)) (fun i hi j hj=>by
   obtain rfl:j=0:=by omega
   rw[Nat.mul_one,Nat.add_zero]
   rw[List.length_append] at hi
   by_cases hil:i<lb.length
   ·rw[List.getElem?_append_left (by omega),hxc i hil]
    simp[byteAt,List.getD_eq_getElem?_getD,List.getElem?_append_left hil]
   ·rw[List.getElem?_append_right (by omega),show xs.length=lb.length by omega]
    simp[byteAt,List.getD_eq_getElem?_getD,List.getElem?_append_right (show lb.length≤i by omega),show i-lb.length<b.length by omega]) (fun y hy=>by
   rcases List.mem_append.1 hy with h|h
   ·exact hone y h
   ·obtain⟨c,_,rfl⟩:=List.mem_map.1 h
    rfl) (fun i hi j hj _=> .val _) (fun i hi j hj ty t q e=>absurd e (hrep _ i j ty t q)) (fun i j i' j' m e=>by cases e)
  exact⟨v',w',G,r1,hG⟩
 ·cases h
end
section
variable {P:Program} {ops:Array Oper} {Q:Exit→Act→World→Prop} {md:Region.Mode} {S:Nat→World→World→Prop} {C:World→Prop}
def wpAnyG (P:Program) (md:Region.Mode) (ops:Array Oper) (Q:Exit→Act→World→Prop) (S:Nat→World→World→Prop):Nat→Array Bool→Act→World→Prop
 |0,listed,a,w=>Region.ready md ops listed=[]∧Q .normal a w
 |fuel+1,listed,a,w=>
  (Region.ready md ops listed=[]→Q .normal a w)∧
  ∀i∈Region.ready md ops listed,wpOp P ops Q i (fun a' w'=>S i w w'∧wpAnyG P md ops Q S fuel (listed.setIfInBounds i true) a' w') a w
theorem wpAny_of_G: ∀(fuel:Nat) (listed:Array Bool) (a:Act) (w:World),wpAnyG P md ops Q S fuel listed a w→wpAny P md ops Q fuel listed a w
 |0,_,_,_,h=>h
 |fuel+1,_,_,_,h=>⟨h.1,fun i hi=>wpOp_mono (fun a' w' h'=>wpAny_of_G fuel _ a' w' h'.2) (h.2 i hi)⟩
theorem wpAnyG_S {S1 S2:Nat→World→World→Prop} (h: ∀i w w',S1 i w w'→S2 i w w'): ∀(fuel:Nat) (listed:Array Bool) (a:Act) (w:World),wpAnyG P md ops Q S1 fuel listed a w→wpAnyG P md ops Q S2 fuel listed a w
 |0,_,_,_,hh=>hh
 |fuel+1,_,_,w,hh=>⟨hh.1,fun i hi=>wpOp_mono (fun a' w' h'=>⟨h i w w' h'.1,wpAnyG_S h fuel _ a' w' h'.2⟩) (hh.2 i hi)⟩
theorem wpAnyG_first {i:Nat} {oi:Oper} {v:Value} (A:List Nat) (hi:ops[i]?=some oi) (hsel: ∀(j:Nat) (o:Oper) cs b,ops[j]?=some o→o.op≠ .select cs b)
  (hQ: ∀c a w,Q (.panic c) (a.put oi.dst v) w→Q (.panic c) a w)
  (hA: ∀j,j∈A→j≠i→ ∀oj,ops[j]?=some oj→ ∃e∈oj.after,Region.binds md e=true∧e.on∈A)
  (hS: ∀j,j∉A→ ∀w w',C w→S j w w'→C w') (hSi: ∀w,S i w w):
  ∀(fuel:Nat) (listed:Array Bool) (a:Act) (w:World),
   (∀j oj,ops[j]?=some oj→j≠i→listed.getD j true=false→(∀e∈oj.after,Region.binds md e=true→e.on≠i)→oi.apart ops oj=true)→
   (∀j,j∈A→listed.getD j false=false)→i∈Region.ready md ops listed→YieldsIf P ops C oi v a→C w→
   wpAnyG P md ops Q S fuel (listed.setIfInBounds i true) (a.put oi.dst v) w→wpAnyG P md ops Q S (fuel+1) listed a w:=by
 intro fuel
 induction fuel with
 |zero=>
  intro listed a w _ _ hr hy hC H
  refine⟨fun h=>(by rw[h] at hr;cases hr),fun j hj=> ?_⟩
  by_cases hji:j=i
  ·subst hji;exact hy.wpOp hi hC ⟨hSi w,H⟩
  ·have:=ready_mono hj hji
   rw[H.1] at this
   cases this
 |succ fuel ih=>
  intro listed a w hfree hun hr hy hC H
  refine⟨fun h=>(by rw[h] at hr;cases hr),fun j hj=> ?_⟩
  by_cases hji:j=i
  ·subst hji;exact hy.wpOp hi hC ⟨hSi w,H⟩
  ·have h1:=H.2 j (ready_mono hj hji)
   obtain⟨hjun,oj,hoj,hall⟩:=mem_ready.1 hj
   have hjA:j∉A:=fun hm=>by
    obtain⟨e,he,hb,heA⟩:=hA j hm hji oj hoj
    have h1:=hall e he hb
    rw[hun _ heA] at h1;cases h1
   have hnot: ∀e∈oj.after,Region.binds md e=true→e.on≠i:=fun e he hb heq=>by
    have h1:=hall e he hb
    have h0:=(mem_ready.1 hr).1
    rw[heq] at h1
    rcases Nat.lt_or_ge i listed.size with h'|h'
    ·simp[h'] at h0 h1;rw[h0] at h1;cases h1
    ·simp[Array.getElem?_eq_none h'] at h1
   have h2:=wpOp_putIf hoj (hfree j oj hoj hji hjun hnot) (fun cs b=>hsel i oi cs b hi) (fun cs b=>hsel j oj cs b hoj) hQ hy h1
   have hfree': ∀k ok,ops[k]?=some ok→k≠i→(listed.setIfInBounds j true).getD k true=false→
     (∀e∈ok.after,Region.binds md e=true→e.on≠i)→oi.apart ops ok=true:=fun k ok hk hki hun hno=>by
    refine hfree k ok hk hki ?_ hno
    by_cases hjk:j=k
    ·subst hjk;exact hjun
    ·rw[Go.getD_set_ne true hjk] at hun;exact hun
   refine wpOp_mono (fun a' w' h3=>⟨h3.2.1,ih (listed.setIfInBounds j true) a' w' hfree' (fun k hk=> ?_) (ready_mono hr (Ne.symm hji)) h3.1 (hS j hjA w w' hC h3.2.1) ?_⟩) h2
   ·rw[Go.getD_set_ne false (fun e=>hjA (by rw[e];exact hk))];exact hun k hk
   ·rw[Array.setIfInBounds_comm _ _ hji]
    exact h3.2.2
theorem wpAnyG_all {i:Nat} {fuel:Nat} {listed:Array Bool} {a:Act} {w:World} (hr:Region.ready md ops listed=[i])
  (h:wpOp P ops Q i (fun a' w'=>S i w w'∧wpAnyG P md ops Q S fuel (listed.setIfInBounds i true) a' w') a w):wpAnyG P md ops Q S (fuel+1) listed a w:=by
 refine⟨fun h0=>(by rw[hr] at h0;cases h0),fun j hj=> ?_⟩
 rw[hr] at hj
 obtain rfl:j=i:=by simpa using hj
 exact h
theorem wpAnyG_done {listed:Array Bool} {a:Act} {w:World} (hr:Region.ready md ops listed=[]) (h:Q .normal a w): ∀fuel,wpAnyG P md ops Q S fuel listed a w
 |0=>⟨hr,h⟩
 |_+1=>⟨fun _=>h,by rw[hr];simp⟩
end
structure Kb (B:Nat) (js:List Nat) (h:List (Nat×Ob)) (F:Cx) (w w':World):Prop where
 size:w.heap.size≤w'.heap.size
 ro: ∀b,b<B→ ¬F.F b→w'.heap[b]?=w.heap[b]?
 bx: ∀k ty v b,Hget h (.r k)=some (.box ty v)→F.O (.r k)=some b→ ∀j,js.contains j=false→w'.cell? ⟨b,j,none⟩=w.cell? ⟨b,j,none⟩
theorem Kb.refl (B:Nat) (js:List Nat) (h:List (Nat×Ob)) (F:Cx) (w:World):Kb B js h F w w:=⟨Nat.le_refl _,fun _ _ _=>rfl,fun _ _ _ _ _ _ _ _=>rfl⟩
theorem Kp.kb {js:List Nat} {h:List (Nat×Ob)} {F:Cx} {w w':World} (k:Kp false js h F w w'):Kb w.heap.size js h F w w':=⟨k.size,k.ro,k.bx⟩
theorem Kb.phase {js js0:List Nat} {h h':List (Nat×Ob)} {F F':Cx} {w0 w1 w w':World} (st:Stp js0 h h' F F' w0 w1) (k:Kb w1.heap.size js h' F' w w'):Kb w0.heap.size js h F w w' where
 size:=k.size
 ro:=fun b hb hF=>k.ro b (Nat.lt_of_lt_of_le hb st.kp.size) fun hG=>(st.le.le1 b hG).elim hF fun e=>by omega
 bx:=fun n ty v b hk hO j hj=>by
  obtain⟨v',hk'⟩:=st.bx n ty v hk
  exact k.bx n ty v' b hk' (st.le.le2 _ b hO) j hj
theorem Kp.kbs {js js':List Nat} {h:List (Nat×Ob)} {F:Cx} {w0 w w':World} (k:Kp false js h F w0 w) (k':Kb w0.heap.size js' h F w w') (hsub: ∀j,js'.contains j=true→js.contains j=true):Kp false js h F w0 w' where
 size:=Nat.le_trans k.size k'.size
 ro:=fun b hb hF=>(k'.ro b hb hF).trans (k.ro b hb hF)
 bx:=fun n ty v b hk hO j hj=>by
  refine(k'.bx n ty v b hk hO j ?_).trans (k.bx n ty v b hk hO j hj)
  cases h:js'.contains j
  ·rfl
  ·rw[hsub j h] at hj;cases hj
 row:=fun h=>by cases h
end Go.Proofs.YtfengpdaocgcnaaGreatDoor
