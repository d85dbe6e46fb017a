/- One's own memory: stores, that they do. -/
import Derived.Test.YtfengpdaocgcnaaGreatDoorQ04
namespace Go.Proofs.YtfengpdaocgcnaaGreatDoor
open Go.RowKit
def vstore (P:Program) (js:Option (List Nat)) (s:S) (t:TypeId) (p v:V):Option (List Prop×S):=
 if v.sto=true∧P.cellsOf t=v.csize∧0<v.csize then
  match p with
  | .op k j=>match Hroot s.h k with
   |some (.box ty b)=>match js.all fun l=>(List.range v.csize).all fun i=>l.contains (j+i) with
    |true=>match b.setB j v with
     |some b'=>some ([],{s with h:=(k, .box ty b')::s.h})
     |none=>none
    |false=>none
   |_=>none
  | .rp (.r k) sz i j=>match Hroot s.h k with
   |some (.row ty c)=>match c.elems with
    |some (sz',n,_)=>if sz'=sz then match c.setE i j v with
      |some (l,c')=>some ((i<n)::l,{s with h:=(k, .row ty c')::s.h})
      |none=>none
     else none
    |none=>none
   |_=>none
  | .rp (.c k i0 j0) sz i j=>match Hroot s.h k with
   |some (.row ty0 c0)=>match c0.elems with
    |some (_,n0,cc)=>match (cc i0).cell j0 with
     | .own ty c q=>match c.elems with
      |some (sz',n,_)=>if sz'=sz then match c.setE i j v with
        |some (l,c')=>match c0.setO i0 j0 (.own ty c' q) with
         |some c0'=>some ((i<n)::(i0<n0)::l,{s with h:=(k, .row ty0 c0')::s.h})
         |none=>none
        |none=>none
       else none
      |none=>none
     |_=>none
    |none=>none
   |_=>none
  |_=>none
 else none
section
variable {P:Program} {x:Fx} {F:Cx} {w w':World} {a:Act} {s:S}
theorem rep_own {ty:TypeId} {s:V} {q:Option Nat} {y:Value} (h:Rep w F (.own ty s q) y):False:=by
 cases h with
 |sl _ _ _ _ _ _ _ _ _ he=>simp[V.elems] at he
theorem refV_of_rep {m:Nm} {i j:Nat} {v:V} {y:Value} (h:Rep w F v y):refV m i j v=v:=by
 unfold refV
 split
 ·exact(rep_own h).elim
 ·rfl
theorem row_upd (hs:Sat x s F a w) {m:Nm} {ty:TypeId} {c c' v:V} {i j sz n:Nat} {c1 c2:Nat→V} {y z:Value}
  (hk:Hget s.h m=some (.row ty c)) (he:c.elems=some (sz,n,c1)) (he':c'.elems=some (sz,n,c2)) (hi:i<n) (hj:j+v.csize≤sz) (hpos:0<v.csize)
  (h1: ∀m,m<sz→(c2 i).cell m=if j≤m∧m<j+v.csize then v.cell (m-j) else (c1 i).cell m) (h2: ∀k,k≠i→c2 k=c1 k)
  (hp:Rep w F (.rp m sz i j) y) {u0:Nat→Value} (hz:z.cells.size=v.csize) (hc0: ∀j,j<v.csize→z.cells[j]?=some (u0 j)∧(u0 j).oneCell'=true) (hr0: ∀j,j<v.csize→Rep w F (v.cell j) (u0 j)) {t:TypeId} (ht:P.cellsOf t=v.csize):
  ∃g w',F.blk m (.row ty c)=some g∧F.blk m (.row ty c')=some g∧F.F g∧Ev (fun b=>b=g) w w'∧(Instr.storeAt t y z).run P w= .ok () w'∧ObOk w' F m (.row ty c'):=by
 obtain⟨g,n1,cap1,hW,rfl⟩:=rep_rp hp
 obtain⟨x1,sz2,n2,cc,u,xs,hW2,he2,hown,hcs,hr,honec,hF⟩:=hs.own m _ hk
 rw[he] at he2
 obtain⟨rfl,rfl,rfl⟩:sz=sz2∧n=n2∧c1=cc:=by simpa using he2
 rw[hW] at hW2
 obtain rfl:_=x1:=by simpa using hW2
 obtain⟨hxl,hown2⟩:=hown
 rcases hown2 with ⟨h0,_⟩|⟨g2,cap,cur,hv1,hlo,hheap,hncap,hmax,hcsz,htake⟩
 ·cases h0
 obtain⟨⟨rfl⟩,rfl,rfl⟩:g=g2∧n1=n∧cap1=cap:=by simpa using hv1
 have hFg:F.F g:=hF g rfl
 have hm1:(i+1)*sz≤n1*sz:=Nat.mul_le_mul_right _ hi
 have hm2:n1*sz≤cap1*sz:=Nat.mul_le_mul_right _ hncap
 rw[Nat.add_mul] at hm1
 have hzl:z.cells.toList.length=v.csize:=by simpa using hz
 have hone: ∀q∈z.cells.toList,q.oneCell'=true:=fun q hq=>by
  obtain⟨k,hk,rfl⟩:=List.getElem_of_mem hq
  have:=hc0 k (by omega)
  have e:z.cells.toList[k]=u0 k:=by
   have:=this.1
   rw[Array.getElem?_eq_getElem (by simpa using hk)] at this
   simpa using this
  rw[e];exact this.2
 have hrun:=run_storeAt (P:=P) (t:=t) (o:=i*sz+j) (y:=z) hheap (by omega) (by omega) (by omega) hone
 have hinj: ∀k m,m<sz→(i*sz+j≤k*sz+m∧k*sz+m<i*sz+j+v.csize)→k=i:=fun k m hm h=>by
  rcases Nat.lt_trichotomy k i with h1|h1|h1
  ·have:=Nat.mul_le_mul_right sz (show k+1≤i from h1)
   rw[Nat.add_mul] at this;omega
  ·exact h1
  ·have:=Nat.mul_le_mul_right sz (show i+1≤k from h1)
   rw[Nat.add_mul] at this;omega
 have hout:Out F w (w.setCells g (i*sz+j) z.cells.toList):=⟨by rw[setCells_size];exact Nat.le_refl _,fun b hb hn=>(Ev.setCells g _ _ w).block b hb fun e=>hn (by rw[e];exact hFg)⟩
 obtain⟨cur',hheap',hcur'⟩:=heap_setCells_at z.cells.toList (i*sz+j) w cur hheap
 refine⟨g,_,by simp[Cx.blk,hW,Value.ownBlock],by simp[Cx.blk,hW,Value.ownBlock],hFg,Ev.setCells g _ _ w,hrun,_,sz,n1,c2,fun k m=>if k=i∧j≤m∧m<j+v.csize then u0 (m-j) else u k m,setMany xs (i*sz+j) z.cells.toList,hW,he',⟨by rw[setMany_length];exact hxl, .inr ⟨g,cap1,cur',rfl,hlo,hheap',hncap,hmax,?_,?_⟩⟩,fun k hk m hm=> ?_,fun k hk m' hm=> ?_,fun y hy=> ?_,hF⟩
 ·have:cur'.toList.length=cur.toList.length:=by rw[hcur',setMany_length]
  simp only[Array.length_toList] at this
  omega
 ·rw[hcur',setMany_take _ _ _ _ (by omega) (by simp;omega),htake]
 ·show _=some (if k=i∧j≤m∧m<j+v.csize then u0 (m-j) else u k m)
  rw[setMany_get _ _ _ _ (by rw[hxl,hzl];omega),hzl]
  by_cases hc:k=i∧j≤m∧m<j+v.csize
  ·obtain⟨rfl,h3,h4⟩:=hc
   rw[if_pos (by omega),if_pos ⟨rfl,h3,h4⟩,show k*sz+m-(k*sz+j)=m-j from by omega]
   simpa using (hc0 (m-j) (by omega)).1
  ·rw[if_neg fun e=>hc ⟨hinj k m hm e,by have:=hinj k m hm e;subst this;omega⟩,if_neg hc]
   exact hcs k hk m hm
 ·show Rep _ _ _ (if k=i∧j≤m'∧m'<j+v.csize then u0 (m'-j) else u k m')
  by_cases hc:k=i∧j≤m'∧m'<j+v.csize
  ·obtain⟨rfl,h3,h4⟩:=hc
   have h5:=hr0 (m'-j) (by omega)
   rw[if_pos ⟨rfl,h3,h4⟩,h1 m' hm,if_pos ⟨h3,h4⟩,refV_of_rep h5]
   exact h5.out hout
  ·rw[if_neg hc]
   have:(c2 k).cell m'=(c1 k).cell m':=by
    by_cases hki:k=i
    ·subst hki;rw[h1 m' hm,if_neg fun e=>hc ⟨rfl,e⟩]
    ·rw[h2 k hki]
   rw[this];exact(hr k hk m' hm).out hout
 ·obtain⟨k,hk,rfl⟩:=List.getElem_of_mem hy
  rw[setMany_length] at hk
  have:=setMany_get z.cells.toList xs (i*sz+j) k (by rw[hxl,hzl];omega)
  rw[List.getElem?_eq_getElem (by rw[setMany_length];exact hk)] at this
  split at this
  ·exact hone _ (List.mem_of_getElem? this.symm)
  ·exact honec _ (List.mem_of_getElem? this.symm)
theorem stp_upd (hs:Sat x s F a w) {m:Nm} {ob:Ob} {g:Nat} {h':List (Nat×Ob)} {js:List Nat} (hk:Hget s.h m=some ob) (hb:F.blk m ob=some g) (hF:F.F g) (hw:Ev (fun b=>b=g) w w') (hrow: ∀ty v,ob≠ .box ty v)
  (hh: ∀k ty v,Hget s.h (.r k)=some (.box ty v)→Hget h' (.r k)=some (.box ty v)):Stp js s.h h' F F w w':=by
 refine⟨⟨hw.size,fun b hb hn=>hw.block b hb fun e=>hn (by rw[e];exact hF),fun k' ty' v' b' hk' hO j' hj'=> ?_,fun h=>by cases h⟩,(Cx.Le.refl w F).lo,fun k ty v h=>⟨v,hh k ty v h⟩⟩
 refine World.cell?_of_block (a:=⟨b',j',none⟩) (hw.block b' (hs.flt b' (blk_F hs hk' hO)) fun e=> ?_)
 subst e
 have:=hs.sep m (.r k') _ _ _ hk hk' hb hO
 subst this
 rw[hk] at hk'
 exact hrow _ _ (Option.some.inj hk')
theorem vstore_ok (hs:Sat x s F a w) {js:Option (List Nat)} {t:TypeId} {p v:V} {y z:Value} {l:List Prop} {s':S} (h:vstore P js s t p v=some (l,s')) (hl:AllP l) (hp:Rep w F p y) (hv:Rep w F v z):
  ∃w',(Instr.storeAt t y z).run P w= .ok () w'∧Sat x s' F a w'∧ ∀l,js=some l→Stp l s.h s'.h F F w w':=by
 unfold vstore at h
 split at h
 rotate_left
 ·cases h
 rename_i hc
 obtain⟨hsto,ht,hpos⟩:=hc
 obtain⟨u0,hz,hc0,hr0⟩:=cells_of hs hsto hv
 split at h
 ·rename_i k j
  split at h
  ·rename_i ty b hk
   split at h
   ·rename_i hjs
    split at h
    ·rename_i b' hb'
     obtain⟨rfl,rfl⟩:=some_pair h
     obtain⟨q1,q2,q3⟩:=setB_ok hb' hsto
     obtain⟨g,hg,rfl⟩:=rep_op hp
     obtain⟨g',cs,u,hg',hheap,hzz,hcs,hr,hF⟩:=hs.own (.r k) _ hk
     rw[hg] at hg'
     obtain rfl:g=g':=by simpa using hg'
     have hzl:z.cells.toList.length=v.csize:=by simpa using hz
     have hone: ∀q∈z.cells.toList,q.oneCell'=true:=fun q hq=>by
      obtain⟨k,hk,rfl⟩:=List.getElem_of_mem hq
      have:=hc0 k (by omega)
      have e:z.cells.toList[k]=u0 k:=by
       have:=this.1
       rw[Array.getElem?_eq_getElem (by simpa using hk)] at this
       simpa using this
      rw[e];exact this.2
     have hrun:=run_storeAt (P:=P) (t:=t) (o:=j) (y:=z) hheap (by omega) (by omega) (by omega) hone
     have hw:=Ev.setCells g z.cells.toList j w
     obtain⟨cs',hheap',hcs'⟩:=heap_setCells_at z.cells.toList j w cs hheap
     have hsz':cs'.size=cs.size:=by
      have:cs'.toList.length=cs.toList.length:=by rw[hcs',setMany_length]
      simpa using this
     have hget: ∀i,cs'[i]?=if j≤i∧i<j+v.csize then z.cells[i-j]? else cs[i]?:=fun i=>by
      have:=setMany_get z.cells.toList cs.toList j i (by rw[hzl];simp;omega)
      rw[←hcs',hzl] at this
      simpa using this
     have hout:Out F w (w.setCells g j z.cells.toList):=⟨hw.size,fun b hb hn=>hw.block b hb fun e=>hn (by rw[e];exact hF)⟩
     refine⟨_,hrun,hs.upd (k:= .r k) hk (by simpa [Cx.blk] using hg) hw (fun m o' hm=> ?_),fun l hjl=>⟨⟨hw.size,hout.block,fun k' ty' v' b2 hk' hO j' hj'=> ?_,fun h=>by cases h⟩,(Cx.Le.refl w F).lo,fun k' ty' v' hk'=> ?_⟩⟩
     ·rw[Hget_cons] at hm
      split at hm
      ·rename_i hroot
       obtain⟨rfl,rfl⟩:=Hget_box hm
       refine .inl ⟨rfl,by simpa [Cx.blk] using hg,g,cs',fun i=>if j≤i∧i<j+v.csize then u0 (i-j) else u i,hg,hheap',by omega,fun i hi=> ?_,fun i hi=> ?_,hF⟩
       ·show _=some (if j≤i∧i<j+v.csize then u0 (i-j) else u i)∧(if j≤i∧i<j+v.csize then u0 (i-j) else u i).oneCell'=true
        rw[hget i]
        by_cases hc:j≤i∧i<j+v.csize
        ·rw[if_pos hc,if_pos hc];exact hc0 _ (by omega)
        ·rw[if_neg hc,if_neg hc];exact hcs i (by omega)
       ·show Rep _ _ _ (if j≤i∧i<j+v.csize then u0 (i-j) else u i)
        rw[q3 i (by omega)]
        by_cases hc:j≤i∧i<j+v.csize
        ·rw[if_pos hc,if_pos hc];exact(hr0 _ (by omega)).out hout
        ·rw[if_neg hc,if_neg hc];exact(hr i (by omega)).out hout
      ·rename_i hroot
       exact .inr ⟨fun e=>hroot (by rw[e];rfl),o',hm,rfl,fun _ h=>h⟩
     ·subst hjl
      by_cases hb:b2=g
      ·subst hb
       have e1:=cell0 hheap' j'
       have e2:=cell0 hheap j'
       rw[e1,e2,hget j',if_neg fun hc=> ?_]
       rw[Option.all_some] at hjs
       have:=List.all_eq_true.1 hjs (j'-j) (by simp;omega)
       rw[show j+(j'-j)=j' from by omega] at this
       rw[this] at hj';cases hj'
      ·exact World.cell?_of_block (a:=⟨b2,j',none⟩) (hw.block b2 (hs.flt b2 (blk_F hs hk' hO)) hb)
     ·by_cases he:k=k'
      ·subst he
       simp only[Hget] at hk'
       rw[hk] at hk'
       simp only[Option.some.injEq,Ob.box.injEq] at hk'
       exact⟨b',by simp[Hget,Hroot,hk'.1]⟩
      ·exact⟨v',by simp only[Hget,Hroot];rw[if_neg he];exact hk'⟩
    ·cases h
   ·cases h
  ·cases h
 ·rename_i k sz i j
  split at h
  ·rename_i ty c hk
   split at h
   ·rename_i sz' n c1 he
    split at h
    ·rename_i hsz
     subst hsz
     split at h
     ·rename_i l2 c' hse
      obtain⟨rfl,rfl⟩:=some_pair h
      have hi:i<n:=allP_head hl
      obtain⟨c2,e1,e2,e3,e4⟩:=setE_ok hse (allP_tail hl) he hi hsto
      obtain⟨g,w',b1,b2,hFg,hw,hrun,hob⟩:=row_upd hs (m:= .r k) hk he e1 hi e2 hpos e3 e4 hp hz hc0 hr0 ht
      refine⟨w',hrun,hs.upd (k:= .r k) hk b1 hw (fun m o' hm=> ?_),fun l _=>stp_upd hs (m:= .r k) hk b1 hFg hw (fun _ _ h=>by cases h) fun k' ty' v' hk'=> ?_⟩
      ·rw[Hget_cons] at hm
       split at hm
       ·rename_i hroot
        cases m with
        |r q=>
         simp only[Nm.root] at hroot
         subst hroot
         simp only[Hget,Hroot,if_true,Option.some.injEq] at hm
         subst hm
         exact .inl ⟨rfl,b2,hob⟩
        |c q i' j'=>
         simp only[Nm.root] at hroot
         subst hroot
         obtain⟨ty0,s0,sz0,n0,cc,ty',s'',q,hr',he0,hi',hj',hcell,rfl⟩:=Hget_c hm
         simp only[Hroot,if_true,Option.some.injEq,Ob.row.injEq] at hr'
         obtain⟨rfl,rfl⟩:=hr'
         rw[e1] at he0
         obtain⟨rfl,rfl,rfl⟩:sz'=sz0∧n=n0∧c2=cc:=by simpa using he0
         refine .inr ⟨fun e=>(by cases e), .row ty' s'',?_,rfl,fun _ h=>h⟩
         have hold:(c1 i').cell j'= .own ty' s'' q:=by
          by_cases hii:i'=i
          ·subst hii
           rw[e3 j' hj'] at hcell
           split at hcell
           ·rename_i hjj
            have:=hr0 (j'-j) (by omega)
            rw[hcell] at this
            exact(rep_own this).elim
           ·exact hcell
          ·rw[←e4 i' hii];exact hcell
         simp only[Hget,hk,Hchild,he,hold,if_pos (And.intro hi' hj')]
       ·rename_i hroot
        exact .inr ⟨fun e=>hroot (by rw[e];rfl),o',hm,rfl,fun _ h=>h⟩
      ·have hne:k≠k':=by rintro rfl;simp only[Hget] at hk';rw[hk] at hk';cases hk'
       simp only[Hget,Hroot];rw[if_neg hne];exact hk'
     ·cases h
    ·cases h
   ·cases h
  ·cases h
 ·rename_i k i0 j0 sz i j
  split at h
  ·rename_i ty0 c0 hk
   split at h
   ·rename_i szz n0 cc he0
    split at h
    ·rename_i ty c q hcell0
     split at h
     ·rename_i sz' n c1 he
      split at h
      ·rename_i hsz
       subst hsz
       split at h
       ·rename_i l2 c' hse
        split at h
        ·rename_i c0' hso
         obtain⟨rfl,rfl⟩:=some_pair h
         have hi:i<n:=allP_head hl
         have hi0:i0<n0:=allP_head (allP_tail hl)
         obtain⟨cc',f1,f2,f3,f4⟩:=setO_ok hso he0 hi0
         have hkc:Hget s.h (.c k i0 j0)=some (.row ty c):=by simp only[Hget,hk,Hchild,he0,hcell0,if_pos (And.intro hi0 f2)]
         obtain⟨c2,e1,e2,e3,e4⟩:=setE_ok hse (allP_tail (allP_tail hl)) he hi hsto
         obtain⟨g,w',b1,b2,hFg,hw,hrun,hob⟩:=row_upd hs (m:= .c k i0 j0) hkc he e1 hi e2 hpos e3 e4 hp hz hc0 hr0 ht
         refine⟨w',hrun,hs.upd (k:= .c k i0 j0) hkc b1 hw (fun m o' hm=> ?_),fun l _=>stp_upd hs (m:= .c k i0 j0) hkc b1 hFg hw (fun _ _ h=>by cases h) fun k' ty' v' hk'=> ?_⟩
         ·rw[Hget_cons] at hm
          split at hm
          ·rename_i hroot
           cases m with
           |r q'=>
            simp only[Nm.root] at hroot
            subst hroot
            simp only[Hget,Hroot,if_true,Option.some.injEq] at hm
            subst hm
            refine .inr ⟨fun e=>(by cases e), .row ty0 c0,hk,rfl,fun W hW=> ?_⟩
            obtain⟨x1,sz1,n1,c3,u,xs,g1,g2,g3,g4,g5,g6,g7⟩:=hW
            rw[he0] at g2
            obtain⟨rfl,rfl,rfl⟩:szz=sz1∧n0=n1∧cc=c3:=by simpa using g2
            refine⟨x1,szz,n0,cc',u,xs,g1,f1,g3,g4,fun i' hi' j' hj'=> ?_,g6,g7⟩
            have h5:=g5 i' hi' j' hj'
            by_cases hij:i'=i0∧j'=j0
            ·obtain⟨rfl,rfl⟩:=hij
             rw[hcell0] at h5
             rw[f3]
             have:refV (.r k) i' j' (.own ty c' q)=refV (.r k) i' j' (.own ty c q):=by
              simp only[refV,he,e1]
             rw[this];exact h5
            ·rw[f4 i' j' (by rcases Nat.decEq i' i0 with h|h;exact .inl h;exact .inr fun e=>hij ⟨h,e⟩) hj'];exact h5
           |c q' i' j'=>
            simp only[Nm.root] at hroot
            subst hroot
            obtain⟨ty1,s1,sz1,n1,c3,ty',s'',q2,hr',he1,hi',hj',hcell,rfl⟩:=Hget_c hm
            simp only[Hroot,if_true,Option.some.injEq,Ob.row.injEq] at hr'
            obtain⟨rfl,rfl⟩:=hr'
            rw[f1] at he1
            obtain⟨rfl,rfl,rfl⟩:szz=sz1∧n0=n1∧cc'=c3:=by simpa using he1
            by_cases hij:i'=i0∧j'=j0
            ·obtain⟨rfl,rfl⟩:=hij
             rw[f3] at hcell
             obtain⟨rfl,rfl,rfl⟩:ty=ty'∧c'=s''∧q=q2:=by simpa using hcell
             exact .inl ⟨rfl,b2,hob⟩
            ·rw[f4 i' j' (by rcases Nat.decEq i' i0 with h|h;exact .inl h;exact .inr fun e=>hij ⟨h,e⟩) hj'] at hcell
             refine .inr ⟨fun e=>hij ⟨(by injection e),(by injection e)⟩, .row ty' s'',?_,rfl,fun _ h=>h⟩
             simp only[Hget,hk,Hchild,he0,hcell,if_pos (And.intro hi' hj')]
          ·rename_i hroot
           exact .inr ⟨fun e=>hroot (by rw[e];rfl),o',hm,rfl,fun _ h=>h⟩
         ·have hne:k≠k':=by rintro rfl;simp only[Hget] at hk';rw[hk] at hk';cases hk'
          simp only[Hget,Hroot];rw[if_neg hne];exact hk'
        ·cases h
       ·cases h
      ·cases h
     ·cases h
    ·cases h
   ·cases h
  ·cases h
 ·cases h
end
end Go.Proofs.YtfengpdaocgcnaaGreatDoor
