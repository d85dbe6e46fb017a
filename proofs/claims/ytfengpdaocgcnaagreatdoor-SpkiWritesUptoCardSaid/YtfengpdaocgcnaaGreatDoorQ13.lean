/- What makes memory, writes or calls, that it does; statements. -/
import Derived.Test.YtfengpdaocgcnaaGreatDoorQ12
namespace Go.Proofs.YtfengpdaocgcnaaGreatDoor
open Go.RowKit
section
variable {P:Program} {G:Sig} {x:Fx} {F:Cx} {w w':World} {a:Act} {s:S}
theorem mixA_ok (hs:Sat x s F a w) {ks:List Nat}: ∀{bw:List Bool} {vs:List V} {ys:List Value},AllP (mixA s.h bw vs).2→(∀k,k∈mixK bw vs→k∈ks)→(∀(i:Nat) (v:V) (y:Value),vs[i]?=some v→ys[i]?=some y→Rep w F v y)→vs.length=ys.length→
  (mixA s.h bw vs).1.length=ys.length∧ ∀(i:Nat) (v:V) (y:Value),(mixA s.h bw vs).1[i]?=some v→ys[i]?=some y→Rep w (F.less s.h ks) v y
 |[],vs,ys,_,_,hvs,hl=>by
  have e:mixA s.h [] vs=(vs,[]):=by cases vs<;>rfl
  rw[e]
  exact⟨hl,fun i v y hv hy=>(hvs i v y hv hy).le (less_le F s.h ks w)⟩
 |b::bw,[],ys,_,_,_,hl=>by
  have e:(mixA s.h (b::bw) []).1=[]:=by cases b<;>rfl
  rw[e]
  exact⟨hl,fun i v y hv=>by simp at hv⟩
 |true::bw,v::vs,ys,hal,hm,hvs,hl=>by
  cases ys with
  |nil=>simp at hl
  |cons y0 ys=>
   simp only[mixA] at hal⊢
   simp only[mixK,List.mem_append] at hm
   obtain⟨h1,h2⟩:=allP_app hal
   obtain⟨q1,q2⟩:=mixA_ok hs (ks:=ks) (bw:=bw) (vs:=vs) (ys:=ys) h2 (fun k hk=>hm k (.inr hk)) (fun i v y hv hy=>hvs (i+1) v y (by simpa using hv) (by simpa using hy)) (by simpa using hl)
   refine⟨by simp[q1],fun i u y hu hy=> ?_⟩
   cases i with
   |zero=>
    simp only[List.getElem?_cons_zero,Option.some.injEq] at hu hy
    subst hu hy
    exact fz_ok hs (hvs 0 v y0 rfl rfl) h1 (fun k hk=>hm k (.inl hk))
   |succ i=>exact q2 i u y (by simpa using hu) (by simpa using hy)
 |false::bw,v::vs,ys,hal,hm,hvs,hl=>by
  cases ys with
  |nil=>simp at hl
  |cons y0 ys=>
   simp only[mixA] at hal⊢
   simp only[mixK] at hm
   obtain⟨q1,q2⟩:=mixA_ok hs (ks:=ks) (bw:=bw) (vs:=vs) (ys:=ys) hal hm (fun i v y hv hy=>hvs (i+1) v y (by simpa using hv) (by simpa using hy)) (by simpa using hl)
   refine⟨by simp[q1],fun i u y hu hy=> ?_⟩
   cases i with
   |zero=>
    simp only[List.getElem?_cons_zero,Option.some.injEq] at hu hy
    subst hu hy
    exact(hvs 0 v y0 rfl rfl).le (less_le F s.h ks w)
   |succ i=>exact q2 i u y (by simpa using hu) (by simpa using hy)
theorem vstrB_ok (hs:Sat x s F a w) {d:Option Nat} {src dst:TypeId} {v:V} {y:Value} {l:List Prop} {s':S} (h:vstrB P s d src dst v=some (l,s')) (hd: ∀k,d=some k→k<x.n) (hv:Rep w F v y):
  ∃z w',(convert src dst y).run P w= .ok z w'∧Ext w w'∧Sat x s' F (a.put d z) w'∧s'.h=s.h:=by
 unfold vstrB at h
 split at h
 ·rename_i e l0 hsr hds
  split at h
  ·rename_i he
   obtain⟨rfl,rfl⟩:=some_pair h
   obtain rfl:=rep_str hv
   have hx:Ext w (Lib.bytesWorld w e ⟨l0.toArray⟩):=by
    refine⟨?_,?_,?_,by rw[Lib.bytesWorld_size];omega,fun b hb=>Lib.bytesWorld_at_old w e _ b hb⟩<;>rfl
   refine⟨_,_,Lib.run_convert_string_bytes w src dst e _ hsr hds he,hx,(hs.ext' hx).put hd ?_,rfl⟩
   have hsz:(⟨l0.toArray⟩:ByteArray).size=l0.length:=by simp[ByteArray.size]
   rw[hsz]
   refine .sl (.by l0) 1 l0.length _ _ _ w.heap.size 0 (fun i _=> .int .u8 (byteAt l0 i)) rfl ?_ (fun _=>⟨rfl,by rw[Lib.bytesWorld_size];omega,fun hF=>by have:=hs.flt _ hF;omega⟩) (fun i hi j hj=> ?_) (fun i hi j hj=> .val _)
   ·have:=grownCap_ge w l0.length 0 e;exact this
   ·have:=Lib.bytesWorld_cell w e ⟨l0.toArray⟩ i (by rw[hsz];exact hi)
    refine⟨?_,rfl⟩
    rw[show 0+(i*1+j)=i from by omega,this]
    simp[byteAt]
  ·cases h
 ·cases h
structure Marked (g:Nat) (w w':World):Prop where
 os:w'.os=w.os
 tape:w'.tape=w.tape
 output:w'.output=w.output
 size:w'.heap.size=w.heap.size
 block: ∀b,b≠g→w'.heap[b]?=w.heap[b]?
 cell: ∀b o,w'.cell? ⟨b,o,none⟩=w.cell? ⟨b,o,none⟩
theorem Rep.mark {g:Nat} {F:Cx} {v:V} {y:Value} (h:Rep w F v y) (hm:Marked g w w'):Rep w' F v y:=by
 induction h with
 |val x=>exact .val x
 |bb b=>exact .bb b
 |str l=>exact .str l
 |any x=>exact .any x
 |nn t x=>exact .nn t x
 |ifc t v x _ ih=>exact .ifc t v x ih
 |gd g v x _ hu ih=>exact .gd g v x ih hu
 |sl s sz n c A cap b off u he hcap hA hc _ ih=>
  refine .sl s sz n c A cap b off u he hcap (fun hn=>⟨(hA hn).1,by rw[hm.size];exact(hA hn).2.1,(hA hn).2.2⟩) (fun i hi j hj=> ?_) ih
  rw[hm.cell];exact hc i hi j hj
 |pe s sz n c i j b off u he hi hb hF hc _ ih=>
  refine .pe s sz n c i j b off u he hi (by rw[hm.size];exact hb) hF (fun i hi j hj=> ?_) ih
  rw[hm.cell];exact hc i hi j hj
 |op k j b hk=>exact .op k j b hk
 |ro k x hk=>exact .ro k x hk
 |vw m sz a n N cap A B hk hn=>exact .vw m sz a n N cap A B hk hn
 |rp k sz i j g n cap hk=>exact .rp k sz i j g n cap hk
 |st l cs u hs hc _ ih=>exact .st l cs u hs hc ih
 |tu l cs u hs hc _ ih=>exact .tu l cs u hs hc ih
theorem Sat.marked {g:Nat} {G:Cx} {s1:S} (hs:Sat x s F a w) (hs1:Sat x s1 G a w) (hm:Marked g w w') (hg:g<w.heap.size) (hX:x.w.heap.size≤g∨x.X g) (hF:F.F g) (hle: ∀b,G.F b→F.F b) (hne: ∀m ob,Hget s1.h m=some ob→G.blk m ob≠some g):Sat x s1 G a w' where
 ev:=⟨hm.os.trans hs1.ev.os,hm.tape.trans hs1.ev.tape,hm.output.trans hs1.ev.output,by rw[hm.size];exact hs1.ev.size,fun b hb hn=>by
  by_cases e:b=g
  ·subst e;exact hX.elim (fun h=>by omega) fun h=>absurd h hn
  ·exact(hm.block b e).trans (hs1.ev.block b hb hn)⟩
 env:=fun t v ht=>⟨(hs1.env t v ht).1,(hs1.env t v ht).2.mark hm⟩
 df:=hs1.df
 sz:=hs1.sz
 fold:=hs1.fold
 flt:=fun b hb=>by rw[hm.size];exact hs1.flt b hb
 nx:=hs1.nx
 own:=fun m ob hk=>by
  have h0:=hs1.own m ob hk
  have hn:=hne m ob hk
  cases ob with
  |box ty v=>
   obtain⟨b,cs,u,h1,h2,h3,h4,h5,h6⟩:=h0
   have hb:b≠g:=fun e=>hn (by subst e;exact h1)
   exact⟨b,cs,u,h1,(hm.block b hb).trans h2,h3,h4,fun j hj=>(h5 j hj).mark hm,h6⟩
  |row ty v=>
   obtain⟨y,sz,n,c,u,xs,h1,h2,h3,h4,h5,h6,h7⟩:=h0
   refine⟨y,sz,n,c,u,xs,h1,h2,⟨h3.1,?_⟩,h4,fun i hi j hj=>(h5 i hi j hj).mark hm,h6,h7⟩
   rcases h3.2 with h|⟨b,cap,cur,e1,e2,e3,e4⟩
   ·exact .inl h
   ·have hb:b≠g:=fun e=>hn (by subst e;simp[Cx.blk,h1,e1,Value.ownBlock])
    exact .inr ⟨b,cap,cur,e1,e2,(hm.block b hb).trans e3,e4⟩
 own2:=hs1.own2
 own3:=hs1.own3
 sep:=hs1.sep
 wsl:=hs1.wsl
 le:=hs1.le
 inv:=x.J.out hs.inv (by rw[hm.size];exact Nat.le_refl _) (fun b _ hb=>hm.block b fun e=>hb (by subst e;exact hF)) fun b hb=> .inl (hle b hb)
theorem run_mark {t e:TypeId} {C:Array Value} {ty:TypeId} {g n c:Nat} (ht:P.underlying t=some (.slice e)) (he:P.underlying e=some (.int .u8)) (hg:w.heap[g]?=some (.cells C ty (0,0))):
  ∃w',(convert t t (.slice (some ⟨g,0,none⟩) n c)).run P w= .ok (.slice (some ⟨g,0,none⟩) n c) w'∧Marked g w w':=by
 have hsh:w.shape? g=some (ty,C.size):=by unfold World.shape?;rw[hg]
 have hlt:g<w.heap.size:=heap_lt hg
 refine⟨w.freeze ⟨g,C.size,none⟩ 1,?_,?_⟩
 ·simp[convert,run_underlying ht,run_underlying he,markStringish,hsh]
 ·have e0:(w.freeze ⟨g,C.size,none⟩ 1).heap=w.heap.modify g (fun
   | .cells c elem (lo,hi)=> .cells c elem (if lo==hi then (C.size,C.size+1) else (min lo C.size,max hi (C.size+1)))
   |o=>o):=by
   unfold World.freeze
   rw[if_neg (by decide)]
   rfl
  have hb: ∀b,b≠g→(w.freeze ⟨g,C.size,none⟩ 1).heap[b]?=w.heap[b]?:=fun b hb=>by
   rw[e0,Array.getElem?_modify,if_neg (fun h=>hb h.symm)]
  refine⟨?_,?_,?_,by rw[e0];simp,hb,fun b o=> ?_⟩
  ·unfold World.freeze;rw[if_neg (by decide)]
  ·unfold World.freeze;rw[if_neg (by decide)]
  ·unfold World.freeze;rw[if_neg (by decide)]
  ·by_cases e:b=g
   ·subst e
    simp only[World.cell?,e0,Array.getElem?_modify,hg]
    simp
   ·simp only[World.cell?,hb b e]
theorem vmark_ok (hs:Sat x s F a w) {d:Option Nat} {src dst:TypeId} {v:V} {y:Value} {l:List Prop} {s':S} (h:vmark P s d src dst v=some (l,s')) (hl:AllP l) (hd: ∀k,d=some k→k<x.n) (hv:Rep w F v y):
  ∃z w' F',(convert src dst y).run P w= .ok z w'∧Sat x s' F' (a.put d z) w'∧ ∀js,Stp js s.h s'.h F F' w w':=by
 unfold vmark at h
 split at h
 ·rename_i k
  split at h
  ·rename_i e ty b0 hsr hk
   split at h
   ·rename_i he
    split at h
    ·rename_i hcond
     obtain⟨rfl,hnb⟩:=hcond
     obtain⟨rfl,rfl⟩:=some_pair h
     have hpos:0<b0.length:=hl _ (by simp)
     have hk':Hget s.h (.r k)=some (.row ty (.by b0)):=hk
     have hW:=rep_ro hv
     obtain⟨z,sz,n,cc,u,xs,hW',hel,hown,hc,hr,h1,hF⟩:=hs.own _ _ hk'
     rw[hW] at hW'
     obtain rfl:=Option.some.inj hW'
     obtain⟨rfl,rfl,rfl⟩:1=sz∧b0.length=n∧_=cc:=by simpa [V.elems] using hel
     rcases hown.2 with h0|⟨g,cap,cur,e1,e2,e3,e4⟩
     ·exfalso
      obtain⟨A,cap,e,hcap,hA⟩:=row_val hown
      obtain⟨g,rfl⟩:=hA hpos
      rw[e] at h0
      simp at h0
     ·subst e1
      obtain⟨w',hrun,hm⟩:=run_mark (P:=P) (w:=w) (n:=b0.length) (c:=cap) hsr he e3
      have hgF:F.F g:=hF g rfl
      have hblk:F.blk (.r k) (.row ty (.by b0))=some g:=by simp[Cx.blk,hW,Value.ownBlock]
      have hs1:=hs.lessF [k]
      have hne: ∀m ob,Hget (HdelK s.h [k]) m=some ob→(F.less s.h [k]).blk m ob≠some g:=fun m ob hm hb=>by
       obtain⟨q1,q2⟩:=Hget_delK hm
       have hb':F.blk m ob=some g:=by cases ob<;>exact hb
       have:=hs.sep _ _ _ _ g q1 hk' hb' hblk
       subst this
       exact q2 (by simp[Nm.root])
      have hs2:Sat x ⟨frzE s.h [k] s.e,HdelK s.h [k],s.nx⟩ (F.less s.h [k]) a w':=hs.marked hs1 hm (heap_lt e3) (hs.own2 _ _ g hk' hblk) hgF (fun b hb=>hb.1) hne
      refine⟨_,w',_,hrun,hs2.put hd ?_,fun js=>⟨⟨by rw[hm.size];exact Nat.le_refl _,fun b hb hnF=>hm.block b fun e=>hnF (by subst e;exact hgF),fun n ty v b hn hO j _=>hm.cell b j,fun h=>by cases h⟩,(less_le F s.h [k] w).lo,hbx_delK hnb⟩⟩
      have:=lent_row hs (ks:=[k]) hk' (by simp[Nm.root]) hW
      exact Rep.mark this hm
    ·cases h
   ·cases h
  ·cases h
 ·cases h
theorem vact_ok (hG:SigOk P G) {js:Option (List Nat)} {o:Oper} {l:List Prop} {s':S} (h:vact P js G s o=some (l,s')) (hl:AllP l) (hd: ∀k,o.dst=some k→k<x.n) (hJ:x.J=G.J) (hs:Sat x s F a w) {K:Act→World→Prop} {Q:Exit→Act→World→Prop}
  (hK: ∀z w' F',Sat x s' F' (a.put o.dst z) w'→(∀l,js=some l→Stp l s.h s'.h F F' w w')→K (a.put o.dst z) w'):o.wp P a w K Q:=by
 unfold vact at h
 rw[←hJ] at h
 split at h
 ·rename_i t X hop
  split at h
  ·rename_i v l1 hv
   obtain⟨l2,h,hl1,hl2⟩:=addL_ok h hl
   obtain⟨z,w',F',hrun,hs',hst⟩:=vbox_ok (P:=P) hs h hd (ug_ok hv hl1 fun v hv=>hs.env.ev hs.inv hv) (js.getD [])
   have:=hK z w' F' hs' fun l hl=>by subst hl;exact hst
   unfold Oper.wp execOp
   simp only[hop,Sem.run_bind,hrun,Result.andThen_ok]
   exact this
  ·exact absurd h (by simp)
 ·rename_i t hop
  obtain⟨z,w',F',hrun,hs',hst⟩:=valloc_ok (P:=P) hs h hd (js.getD [])
  have:=hK z w' F' hs' fun l hl=>by subst hl;exact hst
  unfold Oper.wp execOp
  simp only[hop,Sem.run_bind,hrun,Result.andThen_ok]
  exact this
 ·rename_i t p X hop
  split at h
  ·rename_i hdst
   split at h
   ·rename_i pv l1 hp
    split at h
    ·rename_i v l2 hv
     obtain⟨l3,h,hl1,hl2⟩:=addL_ok h hl
     obtain⟨hl1,hl4⟩:=allP_app hl1
     obtain⟨w',hrun,hs',hst⟩:=vstore_ok (P:=P) hs h hl2 (ug_ok hp hl1 fun v hv=>hs.env.ev hs.inv hv) (ug_ok hv hl4 fun v hv=>hs.env.ev hs.inv hv)
     have:=hK undef w' F (by rw[hdst];exact hs') hst
     rw[hdst] at this
     unfold Oper.wp execOp
     simp only[hop,Sem.run_bind,hrun,Result.andThen_ok,Sem.run_pure,Oper.upon_skip,hdst]
     exact this
    ·exact absurd h (by simp)
   ·exact absurd h (by simp)
  ·exact absurd h (by simp)
 ·rename_i t ps hop
  obtain⟨z,F',hrun,hs',hst⟩:=vbuild_ok (P:=P) hs h hl hd
  have:=hK z w F' hs' fun l _=>hst l
  have e:(ps.toList.map fun p=>(p.1,a.eval p.2)).toArray=ps.map fun(i,x)=>(i,a.eval x):=by
   rw[←Array.toList_map]
  rw[e] at hrun
  unfold Oper.wp execOp
  simp only[hop,Sem.run_bind,hrun,Result.andThen_ok]
  exact this
 ·rename_i t n ps hop
  obtain⟨z,w',F',hrun,hs',hst,_⟩:=vbuildSlice_ok (P:=P) hs h hl hd
  have:=hK z w' F' hs' fun l _=>hst l
  have e:(ps.toList.map fun p=>(p.1,a.eval p.2)).toArray=ps.map fun(i,x)=>(i,a.eval x):=by
   rw[←Array.toList_map]
  rw[e] at hrun
  unfold Oper.wp execOp
  simp only[hop,Sem.run_bind,hrun,Result.andThen_ok]
  exact this
 ·rename_i t X Y hop
  split at h
  ·rename_i p l1 hp
   split at h
   ·rename_i q l2 hq
    obtain⟨l3,h,hl1,hl2⟩:=addL_ok h hl
    obtain⟨hl1,hl4⟩:=allP_app hl1
    obtain⟨z,w',F',hrun,hs',hst⟩:=vmake_ok (P:=P) hs h hl2 hd (ug_ok hp hl1 fun v hv=>hs.env.ev hs.inv hv) (ug_ok hq hl4 fun v hv=>hs.env.ev hs.inv hv)
    have:=hK z w' F' hs' fun l _=>hst l
    unfold Oper.wp execOp
    simp only[hop,Sem.run_bind,hrun,Result.andThen_ok]
    exact this
   ·exact absurd h (by simp)
  ·exact absurd h (by simp)
 ·rename_i src dst X hop
  split at h
  ·rename_i v l1 hv
   split at h
   ·rename_i r0 hr0
    obtain⟨l2,h,hl1,hl2⟩:=addL_ok h hl
    obtain rfl:=Option.some.inj h
    obtain⟨z,w',hrun,hx,hs',hh⟩:=vstrB_ok (P:=P) hs hr0 hd (ug_ok hv hl1 fun v hv=>hs.env.ev hs.inv hv)
    have:=hK z w' F hs' fun l hl=>by rw[hh];exact⟨.of_ext hs.own hx,(Cx.Le.refl w F).lo,Hbx.refl _⟩
    unfold Oper.wp execOp
    simp only[hop,Sem.run_bind,hrun,Result.andThen_ok]
    exact this
   ·obtain⟨l2,h,hl1,hl2⟩:=addL_ok h hl
    obtain⟨z,w',F',hrun,hs',hst⟩:=vmark_ok (P:=P) hs h hl2 hd (ug_ok hv hl1 fun v hv=>hs.env.ev hs.inv hv)
    have:=hK z w' F' hs' fun l _=>hst l
    unfold Oper.wp execOp
    simp only[hop,Sem.run_bind,hrun,Result.andThen_ok]
    exact this
  ·exact absurd h (by simp)
 ·rename_i c hop
  split at h
  ·rename_i f hcal
   have e:(c.args.toList.map a.eval).toArray=c.args.map a.eval:=by
    rw[←Array.toList_map]
   split at h
   ·rename_i q hq
    obtain rfl:q=(l,s'):=by simpa using h
    unfold vcallF at hq
    rw[←hJ] at hq
    split at hq
    ·rename_i vs l1 hul
     split at hq
     ·rename_i r l2 ks ok hc
      split at hq
      ·obtain⟨rfl,rfl⟩:=some_pair hq
       obtain⟨hl1,hl2⟩:=allP_app hl
       obtain⟨hlen,hvs⟩:=uls_ok hs.env hs.inv hul hl1
       obtain⟨hb,hcalls⟩:=vcall_ok hG hc hl2 hJ hs (Ext.refl w) (ys:=c.args.toList.map a.eval) (by simp[hlen]) hvs
       rw[e] at hcalls
       unfold Oper.wp
       rw[run_enter hop hcal hb,Oper.upon_enter]
       exact hcalls.mono fun e w'' ⟨z,he,hx,hz,_⟩=>by subst he;exact hK z w'' F ((hs.ext' hx).put hd (hz rfl)) fun l _=>⟨.of_ext hs.own hx,(Cx.Le.refl w F).lo,Hbx.refl _⟩
      ·split at hq
       ·rename_i hnb
        obtain⟨rfl,rfl⟩:=some_pair hq
        obtain⟨hl1,hl2⟩:=allP_app hl
        obtain⟨hlen,hvs⟩:=uls_ok hs.env hs.inv hul hl1
        obtain⟨hb,hcalls⟩:=vcall_ok hG hc hl2 hJ hs (Ext.refl w) (ys:=c.args.toList.map a.eval) (by simp[hlen]) hvs
        rw[e] at hcalls
        unfold Oper.wp
        rw[run_enter hop hcal hb,Oper.upon_enter]
        have hs1:=hs.lessF ks
        exact hcalls.mono fun e w'' ⟨z,he,hx,_,hz⟩=>by subst he;exact hK z w'' _ ((hs1.ext' hx).put hd hz) fun l _=>Stp.trans ⟨(Stp.refl l s.h F w).kp,(less_le F s.h ks w).lo,hbx_delK hnb⟩ ⟨.of_ext hs1.own hx,(Cx.Le.refl w _).lo,Hbx.refl _⟩
       ·cases hq
     ·exact absurd hq (by simp)
    ·exact absurd hq (by simp)
   ·unfold vcallH at h
    rw[←hJ] at h
    split at h
    ·rename_i vs l1 hul
     split at h
     ·rename_i ch hch
      split at h
      ·rename_i hbw
       obtain⟨hbw,hjs⟩:=hbw
       obtain⟨rfl,rfl⟩:=some_pair h
       obtain⟨hl1234,hl5⟩:=allP_app hl
       obtain⟨hl123,hl4⟩:=allP_app hl1234
       obtain⟨hl12,hl3⟩:=allP_app hl123
       obtain⟨hl1,hl2⟩:=allP_app hl12
       have hsub:subH s.h ch.pre:=allP_head hl4
       have hks: ∀k,k∈mixK ch.bw vs→k∉keysH ch.pre:=fun k hk=>ninL_ok (hl4 _ (List.mem_cons_of_mem _ (List.mem_map.2 ⟨k,hk,rfl⟩)))
       obtain⟨hlen,hvs⟩:=uls_ok hs.env hs.inv hul hl1
       obtain⟨hb,hfn⟩:=hG.2 f vs s.h s.nx ch hch hl3
       obtain⟨q1,q2⟩:=mixA_ok hs (ks:=mixK ch.bw vs) (ys:=c.args.toList.map a.eval) hl2 (fun k hk=>hk) hvs (by simp[hlen])
       have hmem:=hs.mem hsub hks
       rw[hJ] at hmem
       have hcalls:=hfn w (F.less s.h (mixK ch.bw vs)) (c.args.toList.map a.eval) hmem q1.symm q2
       rw[e] at hcalls
       have hsc:mixK ch.bw vs=[]∨(ch.res.sc=true∧scH ch.post=true):=by
        simp only[Bool.or_eq_true,List.isEmpty_iff,Bool.and_eq_true] at hbw
        exact hbw
       unfold Oper.wp
       rw[run_enter hop hcal hb,Oper.upon_enter]
       exact hcalls.mono fun e w'' ⟨z,G',he,h1,h2,h3,h4,h5,h6⟩=>by
        subst he
        rw[←hJ] at h4
        obtain⟨G2,hG2,hle2⟩:=hs.handed hsub hks hsc h1 h2 h3 h4 h5 hd h6
        refine hK z w'' G2 hG2 fun l hl=> ?_
        subst hl
        have hco: ∀k,k∈keysH ch.post→s.nx≤k∨(keysH ch.pre).contains k=true:=fun k hk=>hl5 (s.nx≤k∨(keysH ch.pre).contains k=true) (by simp only[jsCo];exact List.mem_map.2 ⟨k,hk,rfl⟩)
        have hbxs: ∀k ty v,Hroot ch.pre k=some (.box ty v)→(∀j,j<v.csize→l.contains j=true)∧ ∃v',Hroot ch.post k=some (.box ty v')∧v'.csize=v.csize:=fun k ty v hk=>by
         simp only[jsOk,Bool.or_eq_true,Bool.and_eq_true] at hjs
         rcases hjs with hr|⟨hq,hb⟩
         ·obtain⟨ty',v',e⟩:=rowsH_get hr (.r k) _ hk
          cases e
         ·obtain⟨h1,h2⟩:=boxJs_ok hb hk
          exact⟨fun j hj=>seqN_ok hq (Nat.zero_le _) (by omega),h2⟩
        have hin: ∀b,Blk (F.less s.h (mixK ch.bw vs)) ch.pre b→F.F b∧ ∀k ty v,Hget s.h (.r k)=some (.box ty v)→F.O (.r k)=some b→Hroot ch.pre k=some (.box ty v):=fun b ⟨m,ob,hm,hblk⟩=>by
         have hm':=subH_get hsub m _ hm
         have hx:F.blk m ob=some b:=by cases ob<;>exact hblk
         have hFb:F.F b:=by
          cases ob with
          |box ty v=>
           obtain⟨b',cs,u,hO,_,_,_,_,h7⟩:=hs.own m _ hm'
           have hx:F.O m=some b:=hx
           rw[hO] at hx
           obtain rfl:=Option.some.inj hx
           exact h7
          |row ty v=>
           obtain⟨x,sz,n,cc,u,xs,hW,_,_,_,_,_,h7⟩:=hs.own m _ hm'
           simp only[Cx.blk,hW,Option.bind_some] at hx
           exact h7 b hx
         refine⟨hFb,fun k ty' v' hk hO=> ?_⟩
         have:=hs.sep _ _ _ _ b hk hm' hO hx
         subst this
         rw[hk] at hm'
         obtain rfl:=Option.some.inj hm'
         exact hm
        refine⟨⟨h1.size,fun b hb hF=>h1.block b hb fun hB=>hF (hin b hB).1,fun k ty v b hk hO j hj=> ?_,fun h=>by cases h⟩,hle2.lo,fun k ty v hk=> ?_⟩
        ·obtain⟨b',cs,u,hO',hh,hcs,_⟩:=hs.own _ _ hk
         rw[hO] at hO'
         obtain rfl:=Option.some.inj hO'
         by_cases hB:Blk (F.less s.h (mixK ch.bw vs)) ch.pre b
         ·have hpre:=(hin b hB).2 k ty v hk hO
          obtain⟨c1,v',c2,c3⟩:=hbxs k ty v hpre
          have hjn:v.csize≤j:=by
           rcases Nat.lt_or_ge j v.csize with h|h
           ·rw[c1 j h] at hj;cases hj
           ·exact h
          obtain⟨b2,cs2,u2,hO2,hh2,hcs2,_⟩:=h4.own (.r k) _ c2
          have hOp:(F.less s.h (mixK ch.bw vs)).O (.r k)=some b:=by
           obtain⟨b3,cs3,u3,hO3,_⟩:=hmem.own (.r k) _ hpre
           have:=(less_le F s.h (mixK ch.bw vs) w).le2 (.r k) b hO
           exact this
          rw[h2.le2 _ _ hOp] at hO2
          obtain rfl:=Option.some.inj hO2
          have e1:w.cell? ⟨b,j,none⟩=none:=by
           simp only[World.cell?,hh]
           simp[Array.getElem?_eq_none (show cs.size≤j by omega)]
          have e2:w''.cell? ⟨b,j,none⟩=none:=by
           simp only[World.cell?,hh2]
           simp[Array.getElem?_eq_none (show cs2.size≤j by omega)]
          rw[e1,e2]
         ·exact World.cell?_of_block (a:=⟨b,j,none⟩) (h1.block b (heap_lt hh) hB)
        have hlt:k<s.nx:=by
         rcases Nat.lt_or_ge k s.nx with h|h
         ·exact h
         ·obtain⟨b,_,_,hO,_⟩:=hs.own _ _ hk
          rw[(hs.nx (.r k) h).1] at hO
          cases hO
        by_cases hmk:k∈keysH ch.pre
        ·obtain⟨o,ho⟩:=root_keys hmk
         have h5':=subH_get hsub (.r k) _ ho
         rw[hk] at h5'
         obtain rfl:=Option.some.inj h5'
         obtain⟨_,v',c2,_⟩:=hbxs k ty v ho
         refine⟨v',?_⟩
         simp only[Hget]
         rw[Hroot_app,c2]
        ·have hno:Hroot ch.post k=none:=by
          cases hr:Hroot ch.post k with
          |none=>rfl
          |some o=>
           rcases hco k (keys_root hr) with h|h
           ·omega
           ·exact absurd (List.contains_iff_mem.1 h) hmk
         refine⟨v,?_⟩
         have h1:Hget (HdelK s.h (keysH ch.pre)) (.r k)=some (.box ty v):=Hget_delK_of hk hmk
         simp only[Hget] at h1⊢
         rw[Hroot_app,hno]
         exact h1
      ·exact absurd h (by simp)
     ·exact absurd h (by simp)
    ·exact absurd h (by simp)
  ·rename_i hcal
   split at h
   ·rename_i X Y hargs
    split at h
    ·rename_i t t' htys
     split at h
     ·rename_i htt
      split at h
      ·rename_i p l1 hp
       split at h
       ·rename_i q l2 hq
        obtain⟨l3,h,hl1,hl2⟩:=addL_ok h hl
        obtain⟨hl1,hl4⟩:=allP_app hl1
        obtain⟨el,hel⟩:=vappend_ty h
        obtain⟨z,w',F',hrun,hs',hst⟩:=vappend_ok (P:=P) hs (ty:=o.type) h hl2 hd (ug_ok hp hl1 fun v hv=>hs.env.ev hs.inv hv) (ug_ok hq hl4 fun v hv=>hs.env.ev hs.inv hv)
        have:=hK z w' F' hs' fun l _=>hst l
        have ha:c.args= #[X,Y]:=by simpa using congrArg List.toArray hargs
        have ht:c.argTypes= #[t,t']:=by simpa using congrArg List.toArray htys
        rw[←append_types (sameSl_ok htt) hel] at hrun
        unfold Oper.wp execOp
        simp[hop,resolve,hcal,ha,ht,invoke,builtin,hrun]
        exact this
       ·exact absurd h (by simp)
      ·exact absurd h (by simp)
     ·split at h
      ·rename_i p l1 hp
       split at h
       ·rename_i q l2 hq
        obtain⟨l3,h,hl1,hl2⟩:=addL_ok h hl
        obtain⟨hl1,hl4⟩:=allP_app hl1
        obtain⟨z,w',F',hrun,hs',hst⟩:=vappS_ok (P:=P) hs (ty:=o.type) h hl2 hd (ug_ok hp hl1 fun v hv=>hs.env.ev hs.inv hv) (ug_ok hq hl4 fun v hv=>hs.env.ev hs.inv hv)
        have:=hK z w' F' hs' fun l _=>hst l
        have ha:c.args= #[X,Y]:=by simpa using congrArg List.toArray hargs
        have ht:c.argTypes= #[t,t']:=by simpa using congrArg List.toArray htys
        unfold Oper.wp execOp
        simp[hop,resolve,hcal,ha,ht,invoke,builtin,hrun]
        exact this
       ·exact absurd h (by simp)
      ·exact absurd h (by simp)
    ·exact absurd h (by simp)
   ·exact absurd h (by simp)
  ·rename_i hcal
   split at h
   ·rename_i X Y hargs
    split at h
    ·rename_i t t' htys
     split at h
     ·rename_i p l1 hp
      split at h
      ·rename_i q l2 hq
       obtain⟨l3,h,hl1,hl2⟩:=addL_ok h hl
       obtain⟨hl1,hl4⟩:=allP_app hl1
       obtain⟨z,w',hrun,hs',hst⟩:=vcopy_ok (P:=P) hs (t2:=t') (ty':=o.type) h hd (ug_ok hp hl1 fun v hv=>hs.env.ev hs.inv hv) (ug_ok hq hl4 fun v hv=>hs.env.ev hs.inv hv)
       have:=hK z w' F hs' fun l _=>hst l
       have ha:c.args= #[X,Y]:=by simpa using congrArg List.toArray hargs
       have ht:c.argTypes= #[t,t']:=by simpa using congrArg List.toArray htys
       unfold Oper.wp execOp
       simp[hop,resolve,hcal,ha,ht,invoke,builtin,hrun]
       exact this
      ·exact absurd h (by simp)
     ·exact absurd h (by simp)
    ·exact absurd h (by simp)
   ·exact absurd h (by simp)
  ·rename_i hcal
   split at h
   ·rename_i X hargs
    split at h
    ·rename_i t htys
     split at h
     ·rename_i p l1 hp
      obtain⟨l3,h,hl1,hl2⟩:=addL_ok h hl
      obtain⟨z,w',hrun,hs',hst⟩:=vclear_ok (P:=P) hs (ty':=o.type) h hl2 hd (ug_ok hp hl1 fun v hv=>hs.env.ev hs.inv hv)
      have:=hK z w' F hs' fun l _=>hst l
      have ha:c.args= #[X]:=by simpa using congrArg List.toArray hargs
      have ht:c.argTypes= #[t]:=by simpa using congrArg List.toArray htys
      unfold Oper.wp execOp
      simp[hop,resolve,hcal,ha,ht,invoke,builtin,hrun]
      exact this
     ·exact absurd h (by simp)
    ·exact absurd h (by simp)
   ·exact absurd h (by simp)
  ·exact absurd h (by simp)
 ·exact absurd h (by simp)
theorem wp_of_vq (hG:SigOk P G) {o:Oper} {v:V} {l:List Prop} (h:vq P G s o.op=some (v,l)) (hl:AllP l) (hJ:x.J=G.J) (hs:Sat x s F a w) {K:Act→World→Prop} {Q:Exit→Act→World→Prop}
  (hK: ∀z w',Ext w w'→Rep w' F v z→K (a.put o.dst z) w'):o.wp P a w K Q:=by
 unfold Oper.wp
 rcases vq_ok hG h hl hJ hs with ⟨z,hz,hr⟩|⟨_,f,args,hr⟩
 ·rw[hr w (Ext.refl w)]
  exact hK z w (Ext.refl w) hz
 ·obtain⟨h1,h2⟩:=hr w (Ext.refl w)
  rw[h1,Oper.upon_enter]
  exact h2.mono fun e w'' ⟨z,he,hx,hz⟩=>by subst he;exact hK z w'' hx hz
theorem envGd {e:En} {d:Option Nat} {v:V} (h:EnvOk w F (e.put d v) a):EnvOk w F (e.put d (.gd true v)) a:=by
 cases d with
 |none=>exact h
 |some d=>
  intro t u ht
  simp only[En.put,En.get] at ht
  split at ht
  ·rename_i hdt
   subst hdt
   obtain⟨h1,h2⟩:=h d v (by simp[En.put,En.get])
   obtain rfl:V.gd true v=u:=by simpa using ht
   exact⟨h1, .gd _ _ _ (fun _=>h2) fun h=>absurd h (by simp)⟩
  ·rename_i hdt
   exact h t u (by simp only[En.put,En.get,hdt,if_false];exact ht)
theorem keepH {h pre:List (Nat×Ob)} (hsub:subH h pre) {m:Nm} {o:Ob} (hm:Hget h m=some o):Hget (pre++HdelK h (keysH pre)) m=some o:=by
 have hr: ∀k o,Hroot h k=some o→Hroot (pre++HdelK h (keysH pre)) k=some o:=fun k o hk=>by
  rw[Hroot_app]
  cases hp:Hroot pre k with
  |some o'=>have:=subH_root hsub k o' hp;simp only;rw[←this];exact hk
  |none=>
   have hn:k∉keysH pre:=fun hm=>by
    clear hsub hk
    induction pre with
    |nil=>simp[keysH] at hm
    |cons p r ih=>
     obtain⟨n,u⟩:=p
     simp only[Hroot] at hp
     split at hp
     ·cases hp
     ·rename_i hne
      simp only[keysH,List.mem_cons] at hm
      rcases hm with h|h
      ·exact hne h.symm
      ·exact ih hp h
   have h1:Hget (HdelK h (keysH pre)) (.r k)=some o:=Hget_delK_of (m:= .r k) hk hn
   exact h1
 cases m with
 |r k=>exact hr k o hm
 |c k i j=>
  obtain⟨ty,s0,_,_,_,_,_,_,hq,_⟩:=Hget_c hm
  simp only[Hget,hq] at hm
  simp only[Hget,hr k _ hq]
  exact hm
theorem vgcH_ok (hG:SigOk P G) {g:Option Bool} {c:Call} {o:Oper} {f:FuncId} {b:Bool} {l:List Prop} {s':S} (hop:o.op= .call c) (hcal:c.callee= .value (.func f)) (h:vgcH G (some g) s o.dst f c.args.toList=some (b,l,s')) (hd: ∀k,o.dst=some k→k<x.n) (hJ:x.J=G.J) (hs:Sat x s F a w):
  g=some b∧(b=false→Sat x s' F (a.put o.dst undef) w)∧(b=true→AllP l→ ∀{K:Act→World→Prop} {Q:Exit→Act→World→Prop},(∀z w' F',Sat x s' F' (a.put o.dst z) w'→K (a.put o.dst z) w')→o.wp P a w K Q):=by
 unfold vgcH at h
 rw[←hJ] at h
 split at h
 ·rename_i g0 b0 hg
  obtain rfl:g=some b0:=by simpa using hg
  split at h
  ·rename_i vs l1 hul
   split at h
   ·rename_i ch hch
    split at h
    ·rename_i hbw
     split at h
     ·rename_i hnx
      simp only[Option.some.injEq,Prod.mk.injEq] at h
      obtain⟨rfl,rfl,rfl⟩:=h
      refine⟨rfl,fun hb=> ?_,fun hb hl=> ?_⟩
      ·subst hb
       exact hs.put hd (.gd _ _ _ (fun h=>absurd h (by simp)) fun _=>rfl)
      ·subst hb
       intro K Q hK
       have e:(c.args.toList.map a.eval).toArray=c.args.map a.eval:=by
        rw[←Array.toList_map]
       obtain⟨hl12,hl4⟩:=allP_app hl
       obtain⟨hl1,hl3⟩:=allP_app hl12
       have hsub:subH s.h ch.pre:=allP_head hl4
       have hpost:ch.post=ch.pre:=hl4 _ (by simp)
       have hmx:mixA s.h ch.bw vs=(vs,[]):=by rw[hbw];cases vs<;>rfl
       have hmk:mixK ch.bw vs=[]:=by rw[hbw];cases vs<;>rfl
       obtain⟨hlen,hvs⟩:=uls_ok hs.env hs.inv hul hl1
       obtain⟨hb,hfn⟩:=hG.2 f vs s.h s.nx ch hch hl3
       obtain⟨q1,q2⟩:=mixA_ok hs (ks:=[]) (bw:=ch.bw) (ys:=c.args.toList.map a.eval) (by rw[hmx];exact fun p hp=>by cases hp) (by rw[hmk];exact fun k hk=>hk) hvs (by simp[hlen])
       have hmem:=hs.mem (ks:=[]) hsub (fun k hk=>by cases hk)
       rw[hJ] at hmem
       have hcalls:=hfn w (F.less s.h []) (c.args.toList.map a.eval) hmem q1.symm q2
       rw[e] at hcalls
       unfold Oper.wp
       rw[run_enter hop hcal hb,Oper.upon_enter]
       exact hcalls.mono fun e w'' ⟨z,G',he,h1,h2,h3,h4,h5,h6⟩=>by
        subst he
        rw[←hJ] at h4
        obtain⟨G2,hG2,_⟩:=hs.handed (ks:=[]) hsub (fun k hk=>by cases hk) (.inl rfl) h1 h2 h3 h4 h5 hd h6
        rw[hpost] at hG2
        refine hK z w'' G2 ⟨hG2.ev,envGd hG2.env,hG2.df,hG2.sz,hG2.fold,hG2.flt,fun m hm=>hG2.nx m (by show ch.nx≤_;rw[hnx];exact hm),fun m o hm=>hG2.own m o (keepH hsub hm),fun m o g hm=>hG2.own2 m o g (keepH hsub hm),fun m o g hm=>hG2.own3 m o g (keepH hsub hm),fun m m' o o' g hm hm'=>hG2.sep m m' o o' g (keepH hsub hm) (keepH hsub hm'),hG2.wsl,hG2.le,hG2.inv⟩
     ·cases h
    ·cases h
   ·cases h
  ·cases h
 ·cases h
theorem vgA_ok {js:Option (List Nat)} {ops:Array Oper} {o:Oper} {g:Bool} {l:List Prop} {s1 s0:S} (h:vgA P js G false ops.toList s o=some (g,l,s1,s0)) (hs:Sat x s F a w):
  Region.wanted o (yielded ops a.tmps)=g∧vact P js G s o=some (l,s1)∧s0={s with e:=s.e.put o.dst (.gd false (undV s1 o.dst))}:=by
 unfold vgA at h
 simp only at h
 split at h
 ·rename_i g' hgc
  split at h
  ·rename_i l' s1' hv
   simp only[Option.some.injEq,Prod.mk.injEq] at h
   obtain⟨rfl,rfl,rfl,rfl⟩:=h
   exact⟨gcond_ok hgc hs,hv,rfl⟩
  ·cases h
 ·cases h
theorem vopsL_ok (hG:SigOk P G) (hJ:x.J=G.J) {ops:Array Oper} {Q:Exit→Act→World→Prop} {K:S→Prop} (l2:List Oper) (hK: ∀s F a w,K s→Sat x s F a w→wpList P ops Q l2 a w):
  ∀(l:List Oper) (s:S) (F:Cx) (a:Act) (w:World),dstsOk x.n l→vops P G false ops.toList K l s→Sat x s F a w→wpList P ops Q (l++l2) a w:=by
 intro l
 induction l with
 |nil=>exact fun s F a w _ h hs=>hK s F a w h hs
 |cons o r ih=>
  intro s F a w hd h hs
  have hdo: ∀k,o.dst=some k→k<x.n:=hd o (List.mem_cons_self ..)
  have hdr:dstsOk x.n r:=fun o' ho'=>hd o' (List.mem_cons_of_mem _ ho')
  simp only[vops] at h
  show wpList P ops Q (o::(r++l2)) a w
  split at h
  ·rename_i l s' hf
   rw[obs_iff] at h
   unfold vfst at hf
   split at hf
   ·exact absurd hf (by simp)
   ·rename_i hg
    have hgn:o.guard=none:=by simpa using hg
    exact wpList_plain hgn fun K' hK'=>vact_ok hG hf h.1 hdo hJ hs fun z w' F' hs' _=>hK' _ _ (ih _ _ _ _ hdr h.2 hs')
  ·split at h
   ·rename_i l s' hv
    rw[obs_iff] at h
    obtain⟨v,hvq,_,⟨hgn,_,rfl⟩|⟨b,e,_⟩⟩:=vone_cases hv
    ·exact wpList_plain hgn fun K' hK'=>wp_of_vq hG hvq h.1 hJ hs fun z w' hx hz=>hK' _ _ (ih _ _ _ _ hdr h.2 ((hs.ext' hx).put hdo hz))
    ·exact absurd e (by simp)
   ·rename_i g l s' hv
    rw[obsIf_iff] at h
    obtain⟨hl,hr⟩:=h
    obtain⟨v,hvq,_,⟨_,e,_⟩|⟨b,e,hgc,rfl⟩⟩:=vone_cases hv
    ·exact absurd e (by simp)
    ·obtain rfl:g=b:=by simpa using e
     have hw:=gcond_ok hgc hs
     refine wpList_step fun K' hK'=> ?_
     rw[hw]
     cases g
     ·simp only[Bool.false_eq_true,if_false]
      exact hK' _ _ (ih _ _ _ _ hdr hr (hs.put hdo (.gd _ _ _ (fun h=>absurd h (by simp)) fun _=>rfl)))
     ·simp only[if_true]
      exact wp_of_vq hG hvq (hl rfl) hJ hs fun z w' hx hz=>hK' _ _ (ih _ _ _ _ hdr hr ((hs.ext' hx).put hdo (.gd _ _ _ (fun _=>hz) fun h=>absurd h (by simp))))
   ·split at h
    ·rename_i g l s' hv
     rw[obsIf_iff] at h
     obtain⟨hl,hr⟩:=h
     unfold vgH at hv
     simp only at hv
     split at hv
     ·rename_i c hop
      split at hv
      ·rename_i f hcal
       cases hgc:gcond ops.toList s.e o.guard with
       |none=>rw[hgc] at hv;cases hv
       |some g0=>
        rw[hgc] at hv
        obtain⟨rfl,hf,ht⟩:=vgcH_ok hG hop hcal hv hdo hJ hs
        have hw:=gcond_ok hgc hs
        refine wpList_step fun K' hK'=> ?_
        rw[hw]
        cases g
        ·simp only[Bool.false_eq_true,if_false]
         exact hK' _ _ (ih _ _ _ _ hdr hr (hf rfl))
        ·simp only[if_true]
         exact ht rfl (hl rfl) fun z w' F' hs'=>hK' _ _ (ih _ _ _ _ hdr hr hs')
      ·cases hv
     ·cases hv
    ·split at h
     ·rename_i g l s1 s0 hv
      obtain⟨hw,h1,rfl⟩:=vgA_ok hv hs
      refine wpList_step fun K' hK'=> ?_
      rw[hw]
      cases g
      ·simp only[Bool.false_eq_true,if_false]
       exact hK' _ _ (ih _ _ _ _ hdr (h.2 rfl) (hs.put hdo (.gd _ _ _ (fun h=>absurd h (by simp)) fun _=>rfl)))
      ·simp only[if_true]
       have h2:=h.1 rfl
       rw[obs_iff] at h2
       exact vact_ok hG h1 h2.1 hdo hJ hs fun z w' F' hs' _=>hK' _ _ (ih _ _ _ _ hdr h2.2 hs')
     ·split at h
      ·rename_i g s0 hv
       unfold vno at hv
       simp only at hv
       split at hv
       ·rename_i g0 hgc
        obtain⟨rfl,rfl⟩:g0=g∧_=s0:=by simpa using hv
        have hw:=gcond_ok hgc hs
        refine wpList_step fun K' hK'=> ?_
        rw[hw,h.1]
        simp only[Bool.false_eq_true,if_false]
        exact hK' _ _ (ih _ _ _ _ hdr h.2 (hs.put hdo (.gd _ _ _ (fun h=>absurd h (by simp)) fun _=>rfl)))
       ·exact absurd hv (by simp)
      ·exact h.elim
theorem vops_ok (hG:SigOk P G) (hJ:x.J=G.J) {ops:Array Oper} {Q:Exit→Act→World→Prop} {K:S→Prop} (hK: ∀s F a w,K s→Sat x s F a w→Q .normal a w)
  (l:List Oper) (s:S) (F:Cx) (a:Act) (w:World) (hd:dstsOk x.n l) (h:vops P G false ops.toList K l s) (hs:Sat x s F a w):wpList P ops Q l a w:=by
 have:=vopsL_ok (Q:=Q) hG hJ [] (fun s F a w h hs=>hK s F a w h hs) l s F a w hd h hs
 rwa [List.append_nil] at this
theorem vopsq_ok (hG:SigOk P G) (hJ:x.J=G.J) {ops:Array Oper} {K:S→Prop}:
    ∀(l:List Oper) (s:S) (a:Act),dstsOk x.n l→vops P G true ops.toList K l s→Sat x s F a w→wpQuiet P ops (Ext w) (fun a'=> ∃s',K s'∧Sat x s' F a' w) l a:=by
  intro l
  induction l with
  |nil=>exact fun s a _ h hs=>⟨s,h,hs⟩
  |cons o r ih=>
    intro s a hd h hs
    have hq: ∃v l,vq P G s o.op=some (v,l)∧(v.exact.isSome=true∨ ∀c,o.op≠ .call c)∧
      ((o.guard=none∧AllP l∧vops P G true ops.toList K r {s with e:=s.e.put o.dst v})∨
       ∃g,gcond ops.toList s.e o.guard=some (some g)∧(g=true→AllP l)∧vops P G true ops.toList K r {s with e:=s.e.put o.dst (.gd g v)}):=by
      simp only[vops,vfst,vgH,vgA,vno,Bool.true_or] at h
      split at h
      · rename_i l s' hv
        rw[obs_iff] at h
        obtain⟨v,hvq,hq,⟨hgn,_,rfl⟩|⟨b,e,_⟩⟩:=vone_cases hv
        · exact⟨v,l,hvq,hq rfl, .inl ⟨hgn,h.1,h.2⟩⟩
        · exact absurd e (by simp)
      · rename_i g l s' hv
        rw[obsIf_iff] at h
        obtain⟨v,hvq,hq,⟨_,e,_⟩|⟨b,e,hgc,rfl⟩⟩:=vone_cases hv
        · exact absurd e (by simp)
        · obtain rfl:g=b:=by simpa using e
          exact⟨v,l,hvq,hq rfl, .inr ⟨g,hgc,h.1,h.2⟩⟩
      · exact h.elim
    obtain⟨v,l,hv,hex,hg⟩:=hq
    have hdo: ∀k,o.dst=some k→k<x.n:=hd o (List.mem_cons_self ..)
    have hdr:dstsOk x.n r:=fun o' ho'=>hd o' (List.mem_cons_of_mem _ ho')
    have main:AllP l→ ∃z,(∀w',Ext w w'→o.quietAt P a (Ext w) w' z)∧Rep w F v z:=by
      intro hl
      rcases vq_ok hG hv hl hJ hs with ⟨z,hz,hr⟩|⟨⟨c,hc⟩,f,args,hr⟩
      · refine⟨z,fun w' hx=> ?_,hz⟩
        unfold Oper.quietAt
        rw[hr w' hx]
        exact⟨rfl,rfl⟩
      · rcases hex with he|he
        · obtain⟨z,hz⟩:=Option.isSome_iff_exists.1 he
          have hzr:Rep w F v z:=exact_rep hz
          refine⟨z,fun w' hx=> ?_,hzr⟩
          obtain⟨h1,h2⟩:=hr w' hx
          unfold Oper.quietAt
          rw[h1]
          refine⟨rfl,h2.mono fun e w'' ⟨y,he,hxx,hy⟩=> ?_⟩
          have:=exact_ok hz hy
          subst this
          exact⟨he,hx.trans hxx⟩
        · exact absurd hc (he c)
    rcases hg with ⟨hgn,hl,hr⟩|⟨g,hgc,hl,hr⟩
    · obtain⟨z,h1,h2⟩:=main hl
      refine wpQuiet_step fun K' hK'=> ?_
      simp only[Region.wanted,hgn,if_true]
      exact⟨z,h1,hK' _ (ih _ _ hdr hr (hs.put hdo h2))⟩
    · have hw:=gcond_ok hgc hs
      refine wpQuiet_step fun K' hK'=> ?_
      rw[hw]
      cases g
      · simp only[Bool.false_eq_true,if_false]
        exact hK' _ (ih _ _ hdr hr (hs.put hdo (.gd _ _ _ (fun h=>absurd h (by simp)) fun _=>rfl)))
      · simp only[if_true]
        obtain⟨z,h1,h2⟩:=main (hl rfl)
        exact⟨z,h1,hK' _ (ih _ _ hdr hr (hs.put hdo (.gd _ _ _ (fun _=>h2) fun h=>absurd h (by simp))))⟩
end
def vquiet (P:Program) (gl:Gl) (js:List Nat) (ops:List Oper) (s:S) (o:Oper):Option (Option Bool×List Prop×S):=
 match ldq P gl false js s.e o.op with
 |false=>none
 |true=>match vop P gl s.e s.h o.op with
  |none=>none
  |some (v,l)=>match gcond ops s.e o.guard with
   |some none=>some (none,l,{s with e:=s.e.put o.dst v})
   |some (some g)=>some (some g,l,{s with e:=s.e.put o.dst (.gd g v)})
   |none=>none
def vfstD (P:Program) (js:List Nat) (G:Sig) (s:S) (o:Oper):Option (List Prop×S):=
 match o.guard.isSome with
 |true=>none
 |false=>vact P (some js) G s o
def jsAt:List (Nat×List Nat)→Nat→List Nat
 |[],_=>[]
 |(k,l)::r,j=>if k=j then l else jsAt r j
def vopsD (P:Program) (G:Sig) (m:List (Nat×List Nat)) (ops:List Oper) (K:S→Prop):List (Nat×Option (List Nat))→S→Prop
 |[],s=>K s
 |(i,q)::r,s=>match ops[i]? with
  |none=>False
  |some o=>match q with
   |some js=>match vquiet P G.J.gl js ops s o with
    |some (none,l,s')=>obs l (vopsD P G m ops K r s')
    |some (some g,l,s')=>obsIf (g=true) l (vopsD P G m ops K r s')
    |none=>False
   |none=>match vfstD P (jsAt m i) G s o with
    |some (l,s')=>obs l (vopsD P G m ops K r s')
    |none=>match vone P G false ops s o with
     |some (none,l,s')=>obs l (vopsD P G m ops K r s')
     |some (some g,l,s')=>obsIf (g=true) l (vopsD P G m ops K r s')
     |none=>False
def aft (ops:Array Oper) (i:Nat):List Nat:=(List.range ops.size).foldl (fun acc j=>if !acc.contains j&&(match ops[j]? with
 |some o=>o.after.any fun e=>Region.binds .any e&&acc.contains e.on
 |none=>false) then acc++[j] else acc) [i]
def chkA (ops:Array Oper) (A:List Nat) (i:Nat) (listed:Array Bool):Bool:=A.all fun j=> !listed.getD j false&&(j==i||match ops[j]? with
 |some o=>o.after.any fun e=>Region.binds .any e&&A.contains e.on
 |none=>true)
def chkJ (m:List (Nat×List Nat)) (A:List Nat) (js:List Nat):Bool:=m.all fun p=>A.contains p.1||p.2.all fun j=>js.contains j
def chkGo (ops:Array Oper) (m:List (Nat×List Nat)):List (Nat×Option (List Nat))→Array Bool→Bool
 |[],listed=>(Region.ready .any ops listed).isEmpty
 |(i,some js)::r,listed=>chkA ops (aft ops i) i listed&&chkJ m (aft ops i) js&&(Region.free .any ops listed i&&(Region.ready .any ops listed).contains i)&&chkGo ops m r (listed.setIfInBounds i true)
 |(i,none)::r,listed=>(Region.ready .any ops listed==[i])&&chkGo ops m r (listed.setIfInBounds i true)
def chkD (ops:Array Oper) (m:List (Nat×List Nat)) (sch:List (Nat×Option (List Nat))):Bool:=Region.noSelect ops&&decide (sch.length≤ops.size)&&chkGo ops m sch (Array.replicate ops.size false)
inductive Sch where
 |done
 |q (i:Nat) (js:List Nat) (r:Sch)
 |one (i:Nat) (r:Sch)
 |two (i j:Nat) (r t:Sch)
def Sch.len:Sch→Nat
 | .done=>0
 | .q _ _ r=>r.len+1
 | .one _ r=>r.len+1
 | .two _ _ r t=>max r.len t.len+1
def stepE (P:Program) (G:Sig) (m:List (Nat×List Nat)) (ops:List Oper) (i:Nat) (s:S) (K:S→Prop):Prop:=
 match ops[i]? with
 |none=>False
 |some o=>match vfstD P (jsAt m i) G s o with
  |some (l,s')=>obs l (K s')
  |none=>match vone P G false ops s o with
   |some (none,l,s')=>obs l (K s')
   |some (some g,l,s')=>obsIf (g=true) l (K s')
   |none=>match vgA P (some (jsAt m i)) G false ops s o with
    |some (g,l,s1,s0)=>(g=true→obs l (K s1))∧(g=false→K s0)
    |none=>False
def vopsT (P:Program) (G:Sig) (m:List (Nat×List Nat)) (ops:List Oper) (K:S→Prop):Sch→S→Prop
 | .done,s=>K s
 | .q i js r,s=>match ops[i]? with
  |none=>False
  |some o=>match vquiet P G.J.gl js ops s o with
   |some (none,l,s')=>obs l (vopsT P G m ops K r s')
   |some (some g,l,s')=>obsIf (g=true) l (vopsT P G m ops K r s')
   |none=>False
 | .one i r,s=>stepE P G m ops i s (vopsT P G m ops K r)
 | .two i j r t,s=>stepE P G m ops i s (vopsT P G m ops K r)∧stepE P G m ops j s (vopsT P G m ops K t)
def chkT (ops:Array Oper) (m:List (Nat×List Nat)):Sch→Array Bool→Bool
 | .done,listed=>(Region.ready .any ops listed).isEmpty
 | .q i js r,listed=>chkA ops (aft ops i) i listed&&chkJ m (aft ops i) js&&(Region.free .any ops listed i&&(Region.ready .any ops listed).contains i)&&chkT ops m r (listed.setIfInBounds i true)
 | .one i r,listed=>(Region.ready .any ops listed==[i])&&chkT ops m r (listed.setIfInBounds i true)
 | .two i j r t,listed=>(Region.ready .any ops listed==[i,j])&&chkT ops m r (listed.setIfInBounds i true)&&chkT ops m t (listed.setIfInBounds j true)
def chkTr (ops:Array Oper) (m:List (Nat×List Nat)) (t:Sch):Bool:=Region.noSelect ops&&decide (t.len≤ops.size)&&chkT ops m t (Array.replicate ops.size false)
def vquietR (P:Program) (gl:Gl) (rw:Bool) (js:List Nat) (ops:List Oper) (s:S) (o:Oper):Option (Option Bool×List Prop×S):=
 match ldq P gl rw js s.e o.op with
 |false=>none
 |true=>match vop P gl s.e s.h o.op with
  |none=>none
  |some (v,l)=>match gcond ops s.e o.guard with
   |some none=>some (none,l,{s with e:=s.e.put o.dst v})
   |some (some g)=>some (some g,l,{s with e:=s.e.put o.dst (.gd g v)})
   |none=>none
def vopsR (P:Program) (G:Sig) (m:List (Nat×List Nat)) (R:List Nat) (ops:List Oper) (K:S→Prop):List (Nat×Option (Bool×List Nat))→S→Prop
 |[],s=>K s
 |(i,q)::r,s=>match ops[i]? with
  |none=>False
  |some o=>match q with
   |some (rw,js)=>match vquietR P G.J.gl rw js ops s o with
    |some (none,l,s')=>obs l (vopsR P G m R ops K r s')
    |some (some g,l,s')=>obsIf (g=true) l (vopsR P G m R ops K r s')
    |none=>False
   |none=>match R.contains i with
    |true=>match vfstD P (jsAt m i) G s o with
     |some (l,s')=>obs l (vopsR P G m R ops K r s')
     |none=>False
    |false=>match vone P G false ops s o with
     |some (none,l,s')=>obs l (vopsR P G m R ops K r s')
     |some (some g,l,s')=>obsIf (g=true) l (vopsR P G m R ops K r s')
     |none=>match o.guard,o.op with
      |none, .buildSlice t n ps=>match vbuildSlice P G.J.gl G.df s o.dst t n ps.toList with
       |some (l,s')=>obs l (vopsR P G m R ops K r s')
       |none=>False
      |_,_=>False
def chkRGo (ops:Array Oper) (m:List (Nat×List Nat)) (R:List Nat):List (Nat×Option (Bool×List Nat))→Array Bool→Bool
 |[],listed=>(Region.ready .any ops listed).isEmpty
 |(i,some (rw,js))::r,listed=>chkA ops (aft ops i) i listed&&chkJ m (aft ops i) js&&(!rw||R.all fun p=>(aft ops i).contains p)&&(Region.free .any ops listed i&&(Region.ready .any ops listed).contains i)&&chkRGo ops m R r (listed.setIfInBounds i true)
 |(i,none)::r,listed=>(Region.ready .any ops listed==[i])&&chkRGo ops m R r (listed.setIfInBounds i true)
def chkR (ops:Array Oper) (m:List (Nat×List Nat)) (R:List Nat) (sch:List (Nat×Option (Bool×List Nat))):Bool:=Region.noSelect ops&&decide (sch.length≤ops.size)&&chkRGo ops m R sch (Array.replicate ops.size false)
def DrawC (P:Program) (G:Sig) (ops:List Oper) (K:S→Prop) (s:S):Prop:=
 (Region.lexB .any ops.toArray=true∧vops P G true ops K ops s)∨(∃sch m,chkD ops.toArray m sch=true∧vopsD P G m ops K sch s)∨(∃t m,chkTr ops.toArray m t=true∧vopsT P G m ops K t s)∨ ∃sch m R,chkR ops.toArray m R sch=true∧vopsR P G m R ops K sch s
theorem DrawC.sch {P:Program} {G:Sig} {ops:List Oper} {K:S→Prop} {s:S} (sch:List (Nat×Option (List Nat))) (m:List (Nat×List Nat)) (h:chkD ops.toArray m sch=true) (h2:vopsD P G m ops K sch s):DrawC P G ops K s:= .inr (.inl ⟨sch,m,h,h2⟩)
theorem DrawC.tree {P:Program} {G:Sig} {ops:List Oper} {K:S→Prop} {s:S} (t:Sch) (m:List (Nat×List Nat)) (h:chkTr ops.toArray m t=true) (h2:vopsT P G m ops K t s):DrawC P G ops K s:= .inr (.inr (.inl ⟨t,m,h,h2⟩))
theorem DrawC.rows {P:Program} {G:Sig} {ops:List Oper} {K:S→Prop} {s:S} (sch:List (Nat×Option (Bool×List Nat))) (m:List (Nat×List Nat)) (R:List Nat) (h:chkR ops.toArray m R sch=true) (h2:vopsR P G m R ops K sch s):DrawC P G ops K s:= .inr (.inr (.inr ⟨sch,m,R,h,h2⟩))
def effO (o:Op):Bool:=
 match o with
 | .box _ _=>true
 | .alloc _=>true
 | .makeSlice _ _ _=>true
 | .buildSlice _ _ _=>true
 | .store _ _ _=>true
 | .call c=>match c.callee with
  | .builtin .len=>false
  |_=>true
 |_=>false
def effL:List Oper→Bool
 |[]=>false
 |o::r=>match effO o.op with
  |true=>true
  |false=>effL r
section
variable {P:Program} {G:Sig} {x:Fx} {F:Cx} {w w':World} {a:Act} {s:S}
theorem jsAt_sub {m:List (Nat×List Nat)} {A js:List Nat} (h:chkJ m A js=true) {j:Nat} (hj:j∉A): ∀k,(jsAt m j).contains k=true→js.contains k=true:=by
 induction m with
 |nil=>intro k hk;simp[jsAt] at hk
 |cons p r ih=>
  obtain⟨n,l⟩:=p
  simp only[chkJ,List.all_cons,Bool.and_eq_true,Bool.or_eq_true] at h
  intro k hk
  simp only[jsAt] at hk
  split at hk
  ·rename_i he
   subst he
   rcases h.1 with h|h
   ·exact absurd (by simpa using h) hj
   ·exact List.all_eq_true.1 h k (by simpa using hk)
  ·exact ih h.2 k hk
theorem vquiet_ok {js:List Nat} {ops:Array Oper} {o:Oper} {g:Option Bool} {l:List Prop} {s':S} (h:vquiet P x.J.gl js ops.toList s o=some (g,l,s')) (hs:Sat x s F a w) (hdo: ∀k,o.dst=some k→k<x.n) (hl:g=none∨g=some true→AllP l):
  ∃z,YieldsIf P ops (Kp false js s.h F w) o z a∧Sat x s' F (a.put o.dst z) w∧s'.h=s.h:=by
 unfold vquiet at h
 split at h
 ·exact absurd h (by simp)
 ·rename_i hq
  split at h
  ·exact absurd h (by simp)
  ·rename_i v l0 hv
   split at h
   ·rename_i hg
    simp only[Option.some.injEq,Prod.mk.injEq] at h
    obtain⟨rfl,rfl,rfl⟩:=h
    obtain⟨z,hz,hr⟩:=vop_ok hs.own hv (hl (.inl rfl)) hq hs.env hs.inv
    exact⟨z, .inl ⟨by simp[Region.wanted,gcond_none hg],hr⟩,hs.put hdo hz,rfl⟩
   ·rename_i b hg
    simp only[Option.some.injEq,Prod.mk.injEq] at h
    obtain⟨rfl,rfl,rfl⟩:=h
    have hw:=gcond_ok hg hs
    cases b
    ·exact⟨undef, .inr ⟨hw,rfl⟩,hs.put hdo (.gd _ _ _ (fun h=>absurd h (by simp)) fun _=>rfl),rfl⟩
    ·obtain⟨z,hz,hr⟩:=vop_ok hs.own hv (hl (.inr rfl)) hq hs.env hs.inv
     exact⟨z, .inl ⟨hw,hr⟩,hs.put hdo (.gd _ _ _ (fun _=>hz) fun h=>absurd h (by simp)),rfl⟩
   ·exact absurd h (by simp)
theorem vopsD_ok (hG:SigOk P G) (hJ:x.J=G.J) {m:List (Nat×List Nat)} {ops:Array Oper} {Q:Exit→Act→World→Prop} {K:S→Prop} (hK: ∀s F a w,K s→Sat x s F a w→Q .normal a w) (hQ: ∀c a w,¬Q (.panic c) a w) (hsel:Region.noSelect ops=true) (hd:dstsOk x.n ops.toList):
  ∀(sch:List (Nat×Option (List Nat))) (s:S) (F:Cx) (a:Act) (w:World) (listed:Array Bool) (fuel:Nat),chkGo ops m sch listed=true→sch.length≤fuel→vopsD P G m ops.toList K sch s→Sat x s F a w→wpAnyG P .any ops Q (fun j=>Kb w.heap.size (jsAt m j) s.h F) fuel listed a w:=by
 intro sch
 induction sch with
 |nil=>
  intro s F a w listed fuel hc _ h hs
  exact wpAnyG_done (by simpa [chkGo] using hc) (hK s F a w h hs) fuel
 |cons p r ih=>
  obtain⟨i,q⟩:=p
  intro s F a w listed fuel hc hf h hs
  obtain⟨fuel,rfl⟩: ∃n,fuel=n+1:=⟨fuel-1,by simp only[List.length_cons] at hf;omega⟩
  simp only[List.length_cons] at hf
  simp only[vopsD] at h
  split at h
  ·exact h.elim
  ·rename_i o ho
   have ho':ops[i]?=some o:=by simpa using ho
   have hdo: ∀k,o.dst=some k→k<x.n:=hd o (List.mem_of_getElem? ho)
   cases q with
   |none=>
    simp only[chkGo,Bool.and_eq_true,beq_iff_eq] at hc
    simp only at h
    refine wpAnyG_all hc.1 ?_
    have go: ∀s' F' a' w',vopsD P G m ops.toList K r s'→Sat x s' F' a' w'→Stp (jsAt m i) s.h s'.h F F' w w'→Kb w.heap.size (jsAt m i) s.h F w w'∧wpAnyG P .any ops Q (fun j=>Kb w.heap.size (jsAt m j) s.h F) fuel (listed.setIfInBounds i true) a' w':=fun s' F' a' w' h hs' hst=>
     ⟨hst.kp.kb,wpAnyG_S (fun _ _ _ k=>Kb.phase hst k) _ _ _ _ (ih s' F' a' w' _ fuel hc.2 (by omega) h hs')⟩
    unfold wpOp
    rw[ho']
    simp only
    split at h
    ·rename_i l s' hv
     rw[obs_iff] at h
     unfold vfstD at hv
     split at hv
     ·exact absurd hv (by simp)
     ·rename_i hg
      have hgn:o.guard=none:=by simpa using hg
      have hw:Region.wanted o (yielded ops a.tmps)=true:=by simp[Region.wanted,hgn]
      rw[if_pos hw]
      exact .inl (vact_ok hG hv h.1 hdo hJ hs fun z w' F' hs' hst=>go _ _ _ _ h.2 hs' (hst _ rfl))
    ·split at h
     ·rename_i l s' hv
      rw[obs_iff] at h
      obtain⟨v,hvq,_,⟨hgn,_,rfl⟩|⟨b,e,_⟩⟩:=vone_cases hv
      ·have hw:Region.wanted o (yielded ops a.tmps)=true:=by simp[Region.wanted,hgn]
       rw[if_pos hw]
       exact .inl (wp_of_vq hG hvq h.1 hJ hs fun z w' hx hz=>go _ _ _ _ h.2 ((hs.ext' hx).put hdo hz) ⟨.of_ext hs.own hx,(Cx.Le.refl w F).lo,Hbx.refl _⟩)
      ·exact absurd e (by simp)
     ·rename_i g l s' hv
      rw[obsIf_iff] at h
      obtain⟨hl,hr⟩:=h
      obtain⟨v,hvq,_,⟨_,e,_⟩|⟨b,e,hgc,rfl⟩⟩:=vone_cases hv
      ·exact absurd e (by simp)
      ·obtain rfl:g=b:=by simpa using e
       have hw:=gcond_ok hgc hs
       rw[hw]
       cases g
       ·simp only[Bool.false_eq_true,if_false]
        exact go _ _ _ _ hr (hs.put hdo (.gd _ _ _ (fun h=>absurd h (by simp)) fun _=>rfl)) (Stp.refl _ s.h F w)
       ·simp only[if_true]
        exact .inl (wp_of_vq hG hvq (hl rfl) hJ hs fun z w' hx hz=>go _ _ _ _ hr ((hs.ext' hx).put hdo (.gd _ _ _ (fun _=>hz) fun h=>absurd h (by simp))) ⟨.of_ext hs.own hx,(Cx.Le.refl w F).lo,Hbx.refl _⟩)
     ·exact h.elim
   |some js=>
    simp only[chkGo,Bool.and_eq_true] at hc
    simp only at h
    have key: ∃g l s',vquiet P G.J.gl js ops.toList s o=some (g,l,s')∧(g=none∨g=some true→AllP l)∧vopsD P G m ops.toList K r s':=by
     split at h
     ·rename_i l s' hv
      rw[obs_iff] at h
      exact⟨_,_,_,hv,fun _=>h.1,h.2⟩
     ·rename_i g l s' hv
      rw[obsIf_iff] at h
      exact⟨_,_,_,hv,fun e=>h.1 (by rcases e with e|e;cases e;simpa using e),h.2⟩
     ·exact h.elim
    obtain⟨g,l,s',hv,hl,hr⟩:=key
    obtain⟨z,hy,hs',hh⟩:=vquiet_ok (by rw[hJ];exact hv) hs hdo hl
    obtain⟨⟨⟨hA,hJ⟩,hfree,hready⟩,hrest⟩:=hc
    have hc:True∧chkGo ops m r (listed.setIfInBounds i true)=true:=⟨trivial,hrest⟩
    have hAs:=List.all_eq_true.1 hA
    refine wpAnyG_first (C:=Kp false js s.h F w) (aft ops i) ho' (Region.noSelect_spec hsel) (fun c a w h=>absurd h (hQ _ _ _)) (fun j hj hne oj hoj=> ?_) (fun j hj w1 w2 k1 k2=>Kp.kbs k1 k2 (jsAt_sub hJ hj)) (fun w1=>Kb.refl _ _ _ _ _) fuel listed a w (Region.free_spec ho' hfree) (fun j hj=> ?_) (by simpa using hready) hy (Stp.refl js s.h F w).kp ?_
    ·have:=hAs j hj
     simp only[Bool.and_eq_true,Bool.or_eq_true,beq_iff_eq,hne,false_or,hoj] at this
     obtain⟨e,he,h1⟩:=Array.any_eq_true'.1 this.2
     simp only[Bool.and_eq_true] at h1
     exact⟨e,he,h1.1,by simpa using h1.2⟩
    ·have:=hAs j hj
     simp only[Bool.and_eq_true] at this
     simpa using this.1
    have:=ih s' F _ w _ fuel hc.2 (by omega) hr hs'
    rw[hh] at this
    exact this
theorem stepE_ok (hG:SigOk P G) (hJ:x.J=G.J) {m:List (Nat×List Nat)} {ops:Array Oper} {Q:Exit→Act→World→Prop} {KK:S→Prop} {R:Act→World→Prop} {i:Nat} (hd:dstsOk x.n ops.toList) (h:stepE P G m ops.toList i s KK) (hs:Sat x s F a w)
  (go: ∀s' F' a' w',KK s'→Sat x s' F' a' w'→Stp (jsAt m i) s.h s'.h F F' w w'→R a' w'):wpOp P ops Q i R a w:=by
 unfold stepE at h
 split at h
 ·exact h.elim
 ·rename_i o ho
  have ho':ops[i]?=some o:=by simpa using ho
  have hdo: ∀k,o.dst=some k→k<x.n:=hd o (List.mem_of_getElem? ho)
  unfold wpOp
  rw[ho']
  simp only
  split at h
  ·rename_i l s' hv
   rw[obs_iff] at h
   unfold vfstD at hv
   split at hv
   ·exact absurd hv (by simp)
   ·rename_i hg
    have hgn:o.guard=none:=by simpa using hg
    have hw:Region.wanted o (yielded ops a.tmps)=true:=by simp[Region.wanted,hgn]
    rw[if_pos hw]
    exact .inl (vact_ok hG hv h.1 hdo hJ hs fun z w' F' hs' hst=>go _ _ _ _ h.2 hs' (hst _ rfl))
  ·split at h
   ·rename_i l s' hv
    rw[obs_iff] at h
    obtain⟨v,hvq,_,⟨hgn,_,rfl⟩|⟨b,e,_⟩⟩:=vone_cases hv
    ·have hw:Region.wanted o (yielded ops a.tmps)=true:=by simp[Region.wanted,hgn]
     rw[if_pos hw]
     exact .inl (wp_of_vq hG hvq h.1 hJ hs fun z w' hx hz=>go _ _ _ _ h.2 ((hs.ext' hx).put hdo hz) ⟨.of_ext hs.own hx,(Cx.Le.refl w F).lo,Hbx.refl _⟩)
    ·exact absurd e (by simp)
   ·rename_i g l s' hv
    rw[obsIf_iff] at h
    obtain⟨hl,hr⟩:=h
    obtain⟨v,hvq,_,⟨_,e,_⟩|⟨b,e,hgc,rfl⟩⟩:=vone_cases hv
    ·exact absurd e (by simp)
    ·obtain rfl:g=b:=by simpa using e
     have hw:=gcond_ok hgc hs
     rw[hw]
     cases g
     ·simp only[Bool.false_eq_true,if_false]
      exact go _ _ _ _ hr (hs.put hdo (.gd _ _ _ (fun h=>absurd h (by simp)) fun _=>rfl)) (Stp.refl _ s.h F w)
     ·simp only[if_true]
      exact .inl (wp_of_vq hG hvq (hl rfl) hJ hs fun z w' hx hz=>go _ _ _ _ hr ((hs.ext' hx).put hdo (.gd _ _ _ (fun _=>hz) fun h=>absurd h (by simp))) ⟨.of_ext hs.own hx,(Cx.Le.refl w F).lo,Hbx.refl _⟩)
   ·split at h
    ·rename_i g l s1 s0 hv
     obtain⟨hw,h1,rfl⟩:=vgA_ok hv hs
     rw[hw]
     cases g
     ·simp only[Bool.false_eq_true,if_false]
      exact go _ _ _ _ (h.2 rfl) (hs.put hdo (.gd _ _ _ (fun h=>absurd h (by simp)) fun _=>rfl)) (Stp.refl _ s.h F w)
     ·simp only[if_true]
      have h2:=h.1 rfl
      rw[obs_iff] at h2
      exact .inl (vact_ok hG h1 h2.1 hdo hJ hs fun z w' F' hs' hst=>go _ _ _ _ h2.2 hs' (hst _ rfl))
    ·exact h.elim
theorem vopsT_ok (hG:SigOk P G) (hJ:x.J=G.J) {m:List (Nat×List Nat)} {ops:Array Oper} {Q:Exit→Act→World→Prop} {K:S→Prop} (hK: ∀s F a w,K s→Sat x s F a w→Q .normal a w) (hQ: ∀c a w,¬Q (.panic c) a w) (hsel:Region.noSelect ops=true) (hd:dstsOk x.n ops.toList):
  ∀(t:Sch) (s:S) (F:Cx) (a:Act) (w:World) (listed:Array Bool) (fuel:Nat),chkT ops m t listed=true→t.len≤fuel→vopsT P G m ops.toList K t s→Sat x s F a w→wpAnyG P .any ops Q (fun j=>Kb w.heap.size (jsAt m j) s.h F) fuel listed a w:=by
 intro t
 induction t with
 |done=>
  intro s F a w listed fuel hc _ h hs
  exact wpAnyG_done (by simpa [chkT] using hc) (hK s F a w h hs) fuel
 |one i r ih=>
  intro s F a w listed fuel hc hf h hs
  obtain⟨fuel,rfl⟩: ∃n,fuel=n+1:=⟨fuel-1,by simp only[Sch.len] at hf;omega⟩
  simp only[Sch.len] at hf
  simp only[chkT,Bool.and_eq_true,beq_iff_eq] at hc
  refine wpAnyG_all hc.1 (stepE_ok hG hJ hd h hs fun s' F' a' w' hk hs' hst=> ?_)
  exact⟨hst.kp.kb,wpAnyG_S (fun _ _ _ k=>Kb.phase hst k) _ _ _ _ (ih s' F' a' w' _ fuel hc.2 (by omega) hk hs')⟩
 |two i j r t ih1 ih2=>
  intro s F a w listed fuel hc hf h hs
  obtain⟨fuel,rfl⟩: ∃n,fuel=n+1:=⟨fuel-1,by simp only[Sch.len] at hf;omega⟩
  simp only[Sch.len] at hf
  simp only[chkT,Bool.and_eq_true,beq_iff_eq] at hc
  refine⟨fun h0=>(by rw[hc.1.1] at h0;cases h0),fun k hk=> ?_⟩
  rw[hc.1.1] at hk
  have hk:k=i∨k=j:=by simpa using hk
  rcases hk with rfl|rfl
  ·exact stepE_ok hG hJ hd h.1 hs fun s' F' a' w' hk hs' hst=>
    ⟨hst.kp.kb,wpAnyG_S (fun _ _ _ k=>Kb.phase hst k) _ _ _ _ (ih1 s' F' a' w' _ fuel hc.1.2 (by omega) hk hs')⟩
  ·exact stepE_ok hG hJ hd h.2 hs fun s' F' a' w' hk hs' hst=>
    ⟨hst.kp.kb,wpAnyG_S (fun _ _ _ k=>Kb.phase hst k) _ _ _ _ (ih2 s' F' a' w' _ fuel hc.2 (by omega) hk hs')⟩
 |q i js r ih=>
  intro s F a w listed fuel hc hf h hs
  obtain⟨fuel,rfl⟩: ∃n,fuel=n+1:=⟨fuel-1,by simp only[Sch.len] at hf;omega⟩
  simp only[Sch.len] at hf
  simp only[vopsT] at h
  split at h
  ·exact h.elim
  ·rename_i o ho
   have ho':ops[i]?=some o:=by simpa using ho
   have hdo: ∀k,o.dst=some k→k<x.n:=hd o (List.mem_of_getElem? ho)
   simp only[chkT,Bool.and_eq_true] at hc
   have key: ∃g l s',vquiet P G.J.gl js ops.toList s o=some (g,l,s')∧(g=none∨g=some true→AllP l)∧vopsT P G m ops.toList K r s':=by
    split at h
    ·rename_i l s' hv
     rw[obs_iff] at h
     exact⟨_,_,_,hv,fun _=>h.1,h.2⟩
    ·rename_i g l s' hv
     rw[obsIf_iff] at h
     exact⟨_,_,_,hv,fun e=>h.1 (by rcases e with e|e;cases e;simpa using e),h.2⟩
    ·exact h.elim
   obtain⟨g,l,s',hv,hl,hr⟩:=key
   obtain⟨z,hy,hs',hh⟩:=vquiet_ok (by rw[hJ];exact hv) hs hdo hl
   obtain⟨⟨⟨hA,hJ⟩,hfree,hready⟩,hrest⟩:=hc
   have hAs:=List.all_eq_true.1 hA
   refine wpAnyG_first (C:=Kp false js s.h F w) (aft ops i) ho' (Region.noSelect_spec hsel) (fun c a w h=>absurd h (hQ _ _ _)) (fun j hj hne oj hoj=> ?_) (fun j hj w1 w2 k1 k2=>Kp.kbs k1 k2 (jsAt_sub hJ hj)) (fun w1=>Kb.refl _ _ _ _ _) fuel listed a w (Region.free_spec ho' hfree) (fun j hj=> ?_) (by simpa using hready) hy (Stp.refl js s.h F w).kp ?_
   ·have:=hAs j hj
    simp only[Bool.and_eq_true,Bool.or_eq_true,beq_iff_eq,hne,false_or,hoj] at this
    obtain⟨e,he,h1⟩:=Array.any_eq_true'.1 this.2
    simp only[Bool.and_eq_true] at h1
    exact⟨e,he,h1.1,by simpa using h1.2⟩
   ·have:=hAs j hj
    simp only[Bool.and_eq_true] at this
    simpa using this.1
   have:=ih s' F _ w _ fuel hrest (by omega) hr hs'
   rw[hh] at this
   exact this
theorem vquietR_ok {rw:Bool} {js:List Nat} {ops:Array Oper} {o:Oper} {g:Option Bool} {l:List Prop} {s':S} (h:vquietR P x.J.gl rw js ops.toList s o=some (g,l,s')) (hs:Sat x s F a w) (hdo: ∀k,o.dst=some k→k<x.n) (hl:g=none∨g=some true→AllP l):
  ∃z,YieldsIf P ops (Kp rw js s.h F w) o z a∧Sat x s' F (a.put o.dst z) w∧s'.h=s.h:=by
 unfold vquietR at h
 split at h
 ·exact absurd h (by simp)
 ·rename_i hq
  split at h
  ·exact absurd h (by simp)
  ·rename_i v l0 hv
   split at h
   ·rename_i hg
    simp only[Option.some.injEq,Prod.mk.injEq] at h
    obtain⟨rfl,rfl,rfl⟩:=h
    obtain⟨z,hz,hr⟩:=vop_ok hs.own hv (hl (.inl rfl)) hq hs.env hs.inv
    exact⟨z, .inl ⟨by simp[Region.wanted,gcond_none hg],hr⟩,hs.put hdo hz,rfl⟩
   ·rename_i b hg
    simp only[Option.some.injEq,Prod.mk.injEq] at h
    obtain⟨rfl,rfl,rfl⟩:=h
    have hw:=gcond_ok hg hs
    cases b
    ·exact⟨undef, .inr ⟨hw,rfl⟩,hs.put hdo (.gd _ _ _ (fun h=>absurd h (by simp)) fun _=>rfl),rfl⟩
    ·obtain⟨z,hz,hr⟩:=vop_ok hs.own hv (hl (.inr rfl)) hq hs.env hs.inv
     exact⟨z, .inl ⟨hw,hr⟩,hs.put hdo (.gd _ _ _ (fun _=>hz) fun h=>absurd h (by simp)),rfl⟩
   ·exact absurd h (by simp)
def Kbr (B:Nat) (r:Bool) (js:List Nat) (h:List (Nat×Ob)) (F:Cx) (w w':World):Prop:=Kb B js h F w w'∧(r=true→ ∀b,b<B→w'.heap[b]?=w.heap[b]?)
theorem Kbr.phase {r:Bool} {js js0:List Nat} {h h':List (Nat×Ob)} {F F':Cx} {w0 w1 w w':World} (st:Stp js0 h h' F F' w0 w1) (k:Kbr w1.heap.size r js h' F' w w'):Kbr w0.heap.size r js h F w w':=
 ⟨Kb.phase st k.1,fun hr b hb=>k.2 hr b (Nat.lt_of_lt_of_le hb st.kp.size)⟩
theorem Kp.kbr {rw r:Bool} {js js':List Nat} {h:List (Nat×Ob)} {F:Cx} {w0 w w':World} (k:Kp rw js h F w0 w) (k':Kbr w0.heap.size r js' h F w w') (hsub: ∀j,js'.contains j=true→js.contains j=true) (hr:rw=true→r=true):Kp rw js h F w0 w' where
 size:=Nat.le_trans k.size k'.1.size
 ro:=fun b hb hF=>(k'.1.ro b hb hF).trans (k.ro b hb hF)
 bx:=fun n ty v b hk hO j hj=>by
  refine(k'.1.bx n ty v b hk hO j ?_).trans (k.bx n ty v b hk hO j hj)
  cases h:js'.contains j
  ·rfl
  ·rw[hsub j h] at hj;cases hj
 row:=fun h b hb=>(k'.2 (hr h) b hb).trans (k.row h b hb)
theorem Kp.refl (rw:Bool) (js:List Nat) (h:List (Nat×Ob)) (F:Cx) (w:World):Kp rw js h F w w:=⟨Nat.le_refl _,fun _ _ _=>rfl,fun _ _ _ _ _ _ _ _=>rfl,fun _ _ _=>rfl⟩
theorem vopsR_ok (hG:SigOk P G) (hJ:x.J=G.J) {m:List (Nat×List Nat)} {R:List Nat} {ops:Array Oper} {Q:Exit→Act→World→Prop} {K:S→Prop} (hK: ∀s F a w,K s→Sat x s F a w→Q .normal a w) (hQ: ∀c a w,¬Q (.panic c) a w) (hsel:Region.noSelect ops=true) (hd:dstsOk x.n ops.toList):
  ∀(sch:List (Nat×Option (Bool×List Nat))) (s:S) (F:Cx) (a:Act) (w:World) (listed:Array Bool) (fuel:Nat),chkRGo ops m R sch listed=true→sch.length≤fuel→vopsR P G m R ops.toList K sch s→Sat x s F a w→wpAnyG P .any ops Q (fun j=>Kbr w.heap.size (!R.contains j) (jsAt m j) s.h F) fuel listed a w:=by
 intro sch
 induction sch with
 |nil=>
  intro s F a w listed fuel hc _ h hs
  exact wpAnyG_done (by simpa [chkRGo] using hc) (hK s F a w h hs) fuel
 |cons p r ih=>
  obtain⟨i,q⟩:=p
  intro s F a w listed fuel hc hf h hs
  obtain⟨fuel,rfl⟩: ∃n,fuel=n+1:=⟨fuel-1,by simp only[List.length_cons] at hf;omega⟩
  simp only[List.length_cons] at hf
  simp only[vopsR] at h
  split at h
  ·exact h.elim
  ·rename_i o ho
   have ho':ops[i]?=some o:=by simpa using ho
   have hdo: ∀k,o.dst=some k→k<x.n:=hd o (List.mem_of_getElem? ho)
   cases q with
   |none=>
    simp only[chkRGo,Bool.and_eq_true,beq_iff_eq] at hc
    simp only at h
    refine wpAnyG_all hc.1 ?_
    have go: ∀s' F' a' w',vopsR P G m R ops.toList K r s'→Sat x s' F' a' w'→Stp (jsAt m i) s.h s'.h F F' w w'→(R.contains i=false→ ∀b,b<w.heap.size→w'.heap[b]?=w.heap[b]?)→Kbr w.heap.size (!R.contains i) (jsAt m i) s.h F w w'∧wpAnyG P .any ops Q (fun j=>Kbr w.heap.size (!R.contains j) (jsAt m j) s.h F) fuel (listed.setIfInBounds i true) a' w':=fun s' F' a' w' h hs' hst hrow=>
     ⟨⟨hst.kp.kb,fun hr=>hrow (by simpa using hr)⟩,wpAnyG_S (fun _ _ _ k=>Kbr.phase hst k) _ _ _ _ (ih s' F' a' w' _ fuel hc.2 (by omega) h hs')⟩
    unfold wpOp
    rw[ho']
    simp only
    split at h
    ·rename_i hRi
     split at h
     ·rename_i l s' hv
      rw[obs_iff] at h
      unfold vfstD at hv
      split at hv
      ·exact absurd hv (by simp)
      ·rename_i hg
       have hgn:o.guard=none:=by simpa using hg
       have hw:Region.wanted o (yielded ops a.tmps)=true:=by simp[Region.wanted,hgn]
       rw[if_pos hw]
       exact .inl (vact_ok hG hv h.1 hdo hJ hs fun z w' F' hs' hst=>go _ _ _ _ h.2 hs' (hst _ rfl) fun h=>by rw[hRi] at h;cases h)
     ·exact h.elim
    ·split at h
     ·rename_i l s' hv
      rw[obs_iff] at h
      obtain⟨v,hvq,_,⟨hgn,_,rfl⟩|⟨b,e,_⟩⟩:=vone_cases hv
      ·have hw:Region.wanted o (yielded ops a.tmps)=true:=by simp[Region.wanted,hgn]
       rw[if_pos hw]
       exact .inl (wp_of_vq hG hvq h.1 hJ hs fun z w' hx hz=>go _ _ _ _ h.2 ((hs.ext' hx).put hdo hz) ⟨.of_ext hs.own hx,(Cx.Le.refl w F).lo,Hbx.refl _⟩ fun _ b hb=>hx.block b hb)
      ·exact absurd e (by simp)
     ·rename_i g l s' hv
      rw[obsIf_iff] at h
      obtain⟨hl,hr⟩:=h
      obtain⟨v,hvq,_,⟨_,e,_⟩|⟨b,e,hgc,rfl⟩⟩:=vone_cases hv
      ·exact absurd e (by simp)
      ·obtain rfl:g=b:=by simpa using e
       have hw:=gcond_ok hgc hs
       rw[hw]
       cases g
       ·simp only[Bool.false_eq_true,if_false]
        exact go _ _ _ _ hr (hs.put hdo (.gd _ _ _ (fun h=>absurd h (by simp)) fun _=>rfl)) (Stp.refl _ s.h F w) fun _ _ _=>rfl
       ·simp only[if_true]
        exact .inl (wp_of_vq hG hvq (hl rfl) hJ hs fun z w' hx hz=>go _ _ _ _ hr ((hs.ext' hx).put hdo (.gd _ _ _ (fun _=>hz) fun h=>absurd h (by simp))) ⟨.of_ext hs.own hx,(Cx.Le.refl w F).lo,Hbx.refl _⟩ fun _ b hb=>hx.block b hb)
     ·split at h
      ·rename_i t n ps hgn hop
       split at h
       ·rename_i l s' hv
        rw[obs_iff] at h
        obtain⟨z,w',F',hrun,hs',hst,hrow⟩:=vbuildSlice_ok (P:=P) (x:=x) hs (by rw[hJ];exact hv) h.1 hdo
        have hw:Region.wanted o (yielded ops a.tmps)=true:=by simp[Region.wanted,hgn]
        rw[if_pos hw]
        refine .inl ?_
        have:=go _ _ _ _ h.2 hs' (hst _) fun _=>hrow
        have e:(ps.toList.map fun p=>(p.1,a.eval p.2)).toArray=ps.map fun(i,x)=>(i,a.eval x):=by
         rw[←Array.toList_map]
        rw[e] at hrun
        unfold Oper.wp execOp
        simp only[hop,Sem.run_bind,hrun,Result.andThen_ok]
        exact this
       ·exact h.elim
      ·exact h.elim
   |some p=>
    obtain⟨rw,js⟩:=p
    simp only[chkRGo,Bool.and_eq_true] at hc
    simp only at h
    have key: ∃g l s',vquietR P G.J.gl rw js ops.toList s o=some (g,l,s')∧(g=none∨g=some true→AllP l)∧vopsR P G m R ops.toList K r s':=by
     split at h
     ·rename_i l s' hv
      rw[obs_iff] at h
      exact⟨_,_,_,hv,fun _=>h.1,h.2⟩
     ·rename_i g l s' hv
      rw[obsIf_iff] at h
      exact⟨_,_,_,hv,fun e=>h.1 (by rcases e with e|e;cases e;simpa using e),h.2⟩
     ·exact h.elim
    obtain⟨g,l,s',hv,hl,hr⟩:=key
    obtain⟨z,hy,hs',hh⟩:=vquietR_ok (by rw[hJ];exact hv) hs hdo hl
    obtain⟨⟨⟨⟨hA,hJ⟩,hR⟩,hfree,hready⟩,hrest⟩:=hc
    have hAs:=List.all_eq_true.1 hA
    have hRA:rw=true→ ∀j,j∉aft ops i→(!R.contains j)=true:=fun hrw j hj=>by
     rw[hrw] at hR
     simp only[Bool.not_true,Bool.false_or] at hR
     have:=List.all_eq_true.1 hR
     cases hc:R.contains j
     ·rfl
     ·exact absurd (by simpa using this j (by simpa using hc)) hj
    refine wpAnyG_first (C:=Kp rw js s.h F w) (aft ops i) ho' (Region.noSelect_spec hsel) (fun c a w h=>absurd h (hQ _ _ _)) (fun j hj hne oj hoj=> ?_) (fun j hj w1 w2 k1 k2=>Kp.kbr k1 k2 (jsAt_sub hJ hj) fun h=>hRA h j hj) (fun w1=>⟨Kb.refl _ _ _ _ _,fun _ _ _=>rfl⟩) fuel listed a w (Region.free_spec ho' hfree) (fun j hj=> ?_) (by simpa using hready) hy (Kp.refl _ _ _ _ _) ?_
    ·have:=hAs j hj
     simp only[Bool.and_eq_true,Bool.or_eq_true,beq_iff_eq,hne,false_or,hoj] at this
     obtain⟨e,he,h1⟩:=Array.any_eq_true'.1 this.2
     simp only[Bool.and_eq_true] at h1
     exact⟨e,he,h1.1,by simpa using h1.2⟩
    ·have:=hAs j hj
     simp only[Bool.and_eq_true] at this
     simpa using this.1
    have:=ih s' F _ w _ fuel hrest (by omega) hr hs'
    rw[hh] at this
    exact this
end
end Go.Proofs.YtfengpdaocgcnaaGreatDoor
