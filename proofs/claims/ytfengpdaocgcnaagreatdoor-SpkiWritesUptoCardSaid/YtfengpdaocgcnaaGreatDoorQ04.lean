/- One's own memory: new variables, stores. One's own memory: stores. -/
import Derived.Test.YtfengpdaocgcnaaGreatDoorQ03
import Derived.Maps.AppendAt
import Derived.Laws.CopyRow
import Derived.Great.BuildSlice
import Derived.Laws.Tables
import Derived.Deep.Upon
namespace Go.Proofs.YtfengpdaocgcnaaGreatDoor
open Go.RowKit
structure S where
 e:En
 h:List (Nat×Ob)
 nx:Nat
structure Ev (X:Nat→Prop) (w w':World):Prop where
 os:w'.os=w.os
 tape:w'.tape=w.tape
 output:w'.output=w.output
 size:w.heap.size≤w'.heap.size
 block: ∀b,b<w.heap.size→ ¬X b→w'.heap[b]?=w.heap[b]?
theorem Ev.refl (X:Nat→Prop) (w:World):Ev X w w:=⟨rfl,rfl,rfl,Nat.le_refl _,fun _ _ _=>rfl⟩
theorem Ev.trans {X:Nat→Prop} {a b c:World} (h:Ev X a b) (k:Ev X b c):Ev X a c:=
 ⟨k.os.trans h.os,k.tape.trans h.tape,k.output.trans h.output,Nat.le_trans h.size k.size,fun i hi hX=>(k.block i (Nat.lt_of_lt_of_le hi h.size) hX).trans (h.block i hi hX)⟩
theorem Ev.of_ext {X:Nat→Prop} {a b:World} (h:Ext a b):Ev X a b:=⟨h.os,h.tape,h.output,h.size,fun i hi _=>h.block i hi⟩
structure Fx where
 J:Inv
 w:World
 F:Nat→Prop
 n:Nat
 X:Nat→Prop
 C:Cx
structure Sat (x:Fx) (s:S) (F:Cx) (a:Act) (w:World):Prop where
 ev:Ev x.X x.w w
 env:EnvOk w F s.e a
 df:a.defers=[]
 sz:a.tmps.size=x.n
 fold: ∀b,x.F b→F.F b
 flt: ∀b,F.F b→b<w.heap.size
 nx: ∀m:Nm,s.nx≤m.root→F.O m=none∧F.W m=none
 own:HOk w F s.h
 own2: ∀k ob g,Hget s.h k=some ob→F.blk k ob=some g→x.w.heap.size≤g∨x.X g
 own3: ∀k ob g,Hget s.h k=some ob→F.blk k ob=some g→ ¬x.F g
 sep: ∀k k' ob ob' g,Hget s.h k=some ob→Hget s.h k'=some ob'→F.blk k ob=some g→F.blk k' ob'=some g→k=k'
 wsl: ∀k y,F.W k=some y→ ∃A n c,y= .slice A n c
 le:Cx.Le x.w x.C F
 inv:x.J.I w F.F
section
variable {P:Program} {x:Fx} {F:Cx} {w w':World} {a:Act} {s:S}
theorem Inv.ext {J:Inv} {F:Nat→Prop} (h:J.I w F) (hx:Ext w w'):J.I w' F:=J.out h hx.size (fun b hb _=>hx.block b hb) fun _ h=> .inl h
theorem Sat.ext' (h:Sat x s F a w) (hx:Ext w w'):Sat x s F a w' where
 ev:=h.ev.trans (.of_ext hx)
 env:=h.env.ext hx
 df:=h.df
 sz:=h.sz
 fold:=h.fold
 flt:=fun b hb=>Nat.lt_of_lt_of_le (h.flt b hb) hx.size
 nx:=h.nx
 own:=h.own.ext hx
 own2:=h.own2
 own3:=h.own3
 sep:=h.sep
 wsl:=h.wsl
 le:=h.le
 inv:=Inv.ext h.inv hx
theorem Sat.put (h:Sat x s F a w) {d:Option Nat} {v:V} {y:Value} (hd: ∀k,d=some k→k<x.n) (hy:Rep w F v y):Sat x {s with e:=s.e.put d v} F (a.put d y) w where
 ev:=h.ev
 env:=h.env.put (fun k hk=>by rw[h.sz];exact hd k hk) hy
 df:=by cases d<;>exact h.df
 sz:=by cases d<;>simp[Act.put,h.sz]
 fold:=h.fold
 flt:=h.flt
 nx:=h.nx
 own:=h.own
 own2:=h.own2
 own3:=h.own3
 sep:=h.sep
 wsl:=h.wsl
 le:=h.le
 inv:=h.inv
theorem Out.le {F G:Cx} (h:Out F w w') (hl: ∀b,F.F b→G.F b):Out G w w':=⟨h.size,fun b hb hn=>h.block b hb fun hf=>hn (hl b hf)⟩
theorem ObOk.move {F G:Cx} {k k':Nm} {ob:Ob} (h:ObOk w F k ob) (ho:Out F w w') (hl:Cx.Le w F G) (hG: ∀b,F.F b→G.F b) (hk: ∀g,F.blk k ob=some g→w'.heap[g]?=w.heap[g]?)
  (hO: ∀ty v,ob= .box ty v→ ∀b,F.O k=some b→G.O k'=some b) (hW: ∀y,F.W k=some y→G.W k'=some y)
  (hC: ∀q q',k= .r q→k'= .r q'→ ∀i j y,F.W (.c q i j)=some y→G.W (.c q' i j)=some y) (hCr: ∀q i j,k= .c q i j→ ∃q' i' j',k'= .c q' i' j'):ObOk w' G k' ob:=by
 have hr: ∀v y,Rep w F v y→Rep w' G v y:=fun v y h=>(h.le hl).out (ho.le hG)
 cases ob with
 |box ty v=>
  obtain⟨b,cs,u,h1,h2,h3,h4,h5,h6⟩:=h
  exact⟨b,cs,u,hO ty v rfl b h1,(hk b h1).trans h2,h3,h4,fun j hj=>hr _ _ (h5 j hj),hG b h6⟩
 |row ty s=>
  obtain⟨x,sz,n,c,u,xs,h1,h2,h3,h4,h5,h6,h7⟩:=h
  refine⟨x,sz,n,c,u,xs,hW x h1,h2,⟨h3.1,?_⟩,h4,fun i hi j hj=> ?_,h6,fun g hg=>hG g (h7 g hg)⟩
  ·rcases h3.2 with h|⟨g,cap,cur,e1,e2,e3,e4⟩
   ·exact .inl h
   ·have:F.blk k (.row ty s)=some g:=by simp[Cx.blk,h1,e1,Value.ownBlock]
    exact .inr ⟨g,cap,cur,e1,e2,(hk g this).trans e3,e4⟩
  ·have h0:=hr _ _ (h5 i hi j hj)
   have h0':=h5 i hi j hj
   unfold refV at h0 h0'⊢
   split
   ·rename_i ty' s' q hown
    rw[hown] at h0 h0'
    cases k' with
    |c q' i' j'=>exact .any _
    |r q'=>
     cases k with
     |c q0 i0 j0=>obtain⟨_,_,_,e⟩:=hCr q0 i0 j0 rfl;cases e
     |r q0=>
      simp only at h0 h0'⊢
      split
      ·simp only at h0'
       exact .ro _ _ (hC q0 q' rfl rfl i j _ (rep_ro h0'))
      ·simp only at h0'
       split
       ·rename_i sz' n' c' he'
        rw[he'] at h0'
        obtain⟨A,N,cap,B,hw,hn,hB,e⟩:=rep_vw h0'
        rw[e]
        exact .vw _ _ _ _ N cap A B (hC q0 q' rfl rfl i j _ hw) ⟨hn,hB⟩
       ·exact .any _
   ·rename_i hne
    split at h0
    ·rename_i ty' s' q hown;exact absurd hown (hne _ _ _)
    ·exact h0
theorem ObOk.keep {F G:Cx} {k:Nm} {ob:Ob} (h:ObOk w F k ob) (ho:Out F w w') (hl:Cx.Le w F G) (hG: ∀b,F.F b→G.F b) (hk: ∀g,F.blk k ob=some g→w'.heap[g]?=w.heap[g]?):ObOk w' G k ob:=
 h.move ho hl hG hk (fun _ _ _ b hb=>hl.le2 _ b hb) (fun y hy=>hl.le3 _ y hy) (fun q q' e e' i j y hy=>by subst e;cases e';exact hl.le3 _ y hy) (fun q i j e=>⟨q,i,j,e⟩)
theorem blk_F (hs:Sat x s F a w) {k:Nm} {o:Ob} {g:Nat} (hk:Hget s.h k=some o) (hg:F.blk k o=some g):F.F g:=by
 have hok:=hs.own k o hk
 cases o with
 |box ty v=>
  obtain⟨b,_,_,e,_,_,_,_,e'⟩:=hok
  simp only[Cx.blk] at hg;rw[e] at hg
  obtain rfl:b=g:=by simpa using hg
  exact e'
 |row ty v=>
  obtain⟨b,_,_,_,_,_,e,_,_,_,_,_,e'⟩:=hok
  simp only[Cx.blk,e,Option.bind_some] at hg
  exact e' g hg
theorem blk_lt (hs:Sat x s F a w) {k:Nm} {o:Ob} {g:Nat} (hk:Hget s.h k=some o) (hg:F.blk k o=some g):g<w.heap.size:=hs.flt _ (blk_F hs hk hg)
theorem known_ne {F:Cx} {n:Nat} (hn: ∀m:Nm,n≤m.root→F.O m=none∧F.W m=none) {k:Nm} {o:Ob} (h:ObOk w F k o):k.root<n:=by
 rcases Nat.lt_or_ge k.root n with hlt|hge
 ·exact hlt
 ·obtain⟨e1,e2⟩:=hn k hge
  cases o with
  |box ty v=>obtain⟨b,_,_,h,_⟩:=h;rw[e1] at h;cases h
  |row ty v=>obtain⟨b,_,_,_,_,_,h,_⟩:=h;rw[e2] at h;cases h
theorem key_lt (hs:Sat x s F a w) {k:Nm} {o:Ob} (h:Hget s.h k=some o):k.root<s.nx:=known_ne hs.nx (hs.own _ o h)
theorem Hget_cons {k:Nat} {ob:Ob} {h:List (Nat×Ob)} (m:Nm):Hget ((k,ob)::h) m=if k=m.root then Hget [(k,ob)] m else Hget h m:=by
 cases m with
 |r q=>
  simp only[Hget,Hroot,Nm.root]
  split<;>rfl
 |c q i j=>
  simp only[Hget,Hroot,Nm.root]
  split<;>rfl
theorem Hget_one {k:Nat} {ob o:Ob} {m:Nm} (h:Hget [(k,ob)] m=some o):m.root=k:=by
 cases m with
 |r q=>
  simp only[Hget,Hroot] at h
  split at h
  ·rename_i e;exact e.symm
  ·cases h
 |c q i j=>
  obtain⟨ty,s,_,_,_,_,_,_,hr,_⟩:=Hget_c h
  simp only[Hroot] at hr
  split at hr
  ·rename_i e;exact e.symm
  ·cases hr
theorem hbx_cons (hs:Sat x s F a w) {h1:List (Nat×Ob)} (hb:Hbx s.h h1) (ob:Ob):Hbx s.h ((s.nx,ob)::h1):=fun k ty v hk=>by
 have hne:=key_lt hs hk
 obtain⟨v',h⟩:=hb k ty v hk
 refine⟨v',?_⟩
 rw[Hget_cons,if_neg (by simp only[Nm.root] at hne⊢;omega)]
 exact h
theorem Sat.new {G:Cx} {ob:Ob} {h1:List (Nat×Ob)} {d:Option Nat} {v:V} {y:Value} (hs:Sat x s F a w) (hsub: ∀k o,Hget h1 k=some o→Hget s.h k=some o) (ho:Out F w w') (hev:Ev x.X x.w w')
  (hl:Cx.Le w F G) (hG: ∀b,F.F b→G.F b) (hO: ∀k:Nm,k.root≠s.nx→G.O k=F.O k) (hW: ∀k:Nm,k.root≠s.nx→G.W k=F.W k) (hflt: ∀b,G.F b→b<w'.heap.size)
  (hkeep: ∀k o g,Hget h1 k=some o→F.blk k o=some g→w'.heap[g]?=w.heap[g]?) (hob: ∀m o,Hget [(s.nx,ob)] m=some o→ObOk w' G m o)
  (hblk: ∀m o g,Hget [(s.nx,ob)] m=some o→G.blk m o=some g→(x.w.heap.size≤g∨x.X g)∧ ¬x.F g∧ ∀k o,Hget h1 k=some o→F.blk k o≠some g)
  (hsepn: ∀m m' o o' g,Hget [(s.nx,ob)] m=some o→Hget [(s.nx,ob)] m'=some o'→G.blk m o=some g→G.blk m' o'=some g→m=m')
  (hws: ∀m y,m.root=s.nx→G.W m=some y→ ∃A n c,y= .slice A n c)
  (hd: ∀k,d=some k→k<x.n) (hy:Rep w' G v y):Sat x ⟨s.e.put d v,(s.nx,ob)::h1,s.nx+1⟩ G (a.put d y) w':=by
 have hr: ∀v y,Rep w F v y→Rep w' G v y:=fun v y h=>(h.le hl).out (ho.le hG)
 have hb1: ∀k o,Hget h1 k=some o→G.blk k o=F.blk k o∧k.root≠s.nx:=by
  intro k o hk
  have hne:=key_lt hs (hsub k o hk)
  have hne:k.root≠s.nx:=by omega
  refine⟨?_,hne⟩
  cases o<;>simp[Cx.blk,hO k hne,hW k hne]
 have henv:EnvOk w' G s.e a:=fun t v ht=>⟨(hs.env t v ht).1,hr _ _ (hs.env t v ht).2⟩
 refine⟨hev,henv.put (fun k hk=>by rw[hs.sz];exact hd k hk) hy,by cases d<;>exact hs.df,by cases d<;>simp[Act.put,hs.sz],fun b hb=>hG b (hs.fold b hb),hflt,fun k hk=> ?_,fun k o hk=> ?_,fun k o g hk hg=> ?_,fun k o g hk hg=> ?_,fun k k' o o' g hk hk' hg hg'=> ?_,fun k y hk=> ?_,hs.le.trans hl hs.ev.size,x.J.out hs.inv ho.size ho.block hl.le1⟩
 ·have:k.root≠s.nx:=by simp only at hk;omega
  rw[hO k this,hW k this]
  exact hs.nx k (by simp only at hk;omega)
 ·rw[Hget_cons] at hk
  split at hk
  ·exact hob k o hk
  ·exact(hs.own k o (hsub k o hk)).keep ho hl hG fun g hg=>hkeep k o g hk hg
 ·rw[Hget_cons] at hk
  split at hk
  ·exact(hblk k o g hk hg).1
  ·rw[(hb1 k o hk).1] at hg;exact hs.own2 k o g (hsub k o hk) hg
 ·rw[Hget_cons] at hk
  split at hk
  ·exact(hblk k o g hk hg).2.1
  ·rw[(hb1 k o hk).1] at hg;exact hs.own3 k o g (hsub k o hk) hg
 ·rw[Hget_cons] at hk hk'
  split at hk
  ·split at hk'
   ·exact hsepn k k' o o' g hk hk' hg hg'
   ·rw[(hb1 k' o' hk').1] at hg';exact absurd hg' ((hblk k o g hk hg).2.2 k' o' hk')
  ·split at hk'
   ·rw[(hb1 k o hk).1] at hg;exact absurd hg ((hblk k' o' g hk' hg').2.2 k o hk)
   ·rw[(hb1 k o hk).1] at hg;rw[(hb1 k' o' hk').1] at hg'
    exact hs.sep k k' o o' g (hsub k o hk) (hsub k' o' hk') hg hg'
 ·by_cases he:k.root=s.nx
  ·exact hws k y he hk
  ·rw[hW k he] at hk;exact hs.wsl k y hk
def V.one:V→Bool
 | .val x=>x.oneCell'
 | .bb _=>true
 | .str _=>true
 | .by _=>true
 | .sq _ _ _=>true
 | .pe _ _ _=>true
 | .op _ _=>true
 | .ro _=>true
 | .vw _ _ _ _=>true
 | .rp _ _ _ _=>true
 | .nn=>true
 | .ifc _ _=>true
 |_=>false
theorem one_ok (hs:Sat x s F a w) {v:V} {y:Value} (hv:v.one=true) (hr:Rep w F v y):y.oneCell'=true:=by
 cases hr with
 |val _=>exact hv
 |bb _=>rfl
 |str _=>rfl
 |any _=>simp[V.one] at hv
 |nn _ _=>rfl
 |ifc _ _ _ _=>rfl
 |gd _ _ _ _ _=>simp[V.one] at hv
 |sl _ _ _ _ _ _ _ _ _ _ _ _ _ _=>rfl
 |pe _ _ _ _ _ _ _ _ _ _ _ _ _ _ _=>rfl
 |op _ _ _ _=>rfl
 |ro k _ h=>obtain⟨A,n,c,rfl⟩:=hs.wsl k _ h;rfl
 |vw _ _ _ _ _ _ _ _ _ _=>rfl
 |rp _ _ _ _ _ _ _ _=>rfl
 |st _ _ _ _ _ _=>simp[V.one] at hv
 |tu _ _ _ _ _ _=>simp[V.one] at hv
theorem one_cells {y:Value} (h:y.oneCell'=true):y.cells= #[y]:=by cases y<;>simp[Value.oneCell'] at h<;>rfl
theorem one_csize {v:V} (h:v.one=true):v.csize=1∧v.cell 0=v:=by cases v<;>simp[V.one] at h<;>exact⟨rfl,rfl⟩
def V.sto:V→Bool
 | .st _=>true
 |v=>v.one
theorem cells_of (hs:Sat x s F a w) {v:V} {y:Value} (hv:v.sto=true) (hr:Rep w F v y):
  ∃u:Nat→Value,y.cells.size=v.csize∧(∀j,j<v.csize→y.cells[j]?=some (u j)∧(u j).oneCell'=true)∧ ∀j,j<v.csize→Rep w F (v.cell j) (u j):=by
 by_cases h1:v.one=true
 ·obtain⟨h2,h3⟩:=one_csize h1
  have h4:=one_ok hs h1 hr
  rw[one_cells h4,h2]
  refine⟨fun _=>y,rfl,fun j hj=> ?_,fun j hj=> ?_⟩
  ·obtain rfl:j=0:=by omega
   exact⟨rfl,h4⟩
  ·obtain rfl:j=0:=by omega
   rw[h3];exact hr
 ·cases v with
  |st l=>
   obtain⟨cs,u,rfl,q1,q2,q3⟩:=rep_st hr
   exact⟨u,q1,q2,q3⟩
  |_=>exact absurd hv h1
def vbox (s:S) (d:Option Nat) (ty:TypeId) (v:V):Option (List Prop×S):=
 if v.sto then some ([],⟨s.e.put d (.op s.nx 0),(s.nx, .box ty v)::s.h,s.nx+1⟩) else none
theorem Hget_box {k:Nat} {ty:TypeId} {v:V} {m:Nm} {o:Ob} (h:Hget [(k, .box ty v)] m=some o):m= .r k∧o= .box ty v:=by
 cases m with
 |r q=>
  simp only[Hget,Hroot] at h
  split at h
  ·rename_i e;subst e;exact⟨rfl,by simpa using h.symm⟩
  ·cases h
 |c q i j=>
  obtain⟨ty,s,_,_,_,_,_,_,hr,_⟩:=Hget_c h
  simp only[Hroot] at hr
  split at hr
  ·simp at hr
  ·cases hr
theorem box_sat (hs:Sat x s F a w) {d:Option Nat} {ty:TypeId} {v:V} {cs:Array Value} {u:Nat→Value} (hd: ∀k,d=some k→k<x.n) (js:List Nat)
  (h1:cs.size=v.csize) (h2: ∀j,j<v.csize→cs[j]?=some (u j)∧(u j).oneCell'=true) (h3: ∀j,j<v.csize→Rep w F (v.cell j) (u j)):
  ∃G,Sat x ⟨s.e.put d (.op s.nx 0),(s.nx, .box ty v)::s.h,s.nx+1⟩ G (a.put d (.pointer (some ⟨w.heap.size,0,none⟩))) (w.alloc (.cells cs ty))∧Stp js s.h ((s.nx, .box ty v)::s.h) F G w (w.alloc (.cells cs ty)):=by
 let G:Cx:=⟨fun b=>F.F b∨b=w.heap.size,fun k=>match k with
  | .r q=>if q=s.nx then some w.heap.size else F.O (.r q)
  |k=>F.O k,F.W⟩
 have hGO: ∀k:Nm,k.root≠s.nx→G.O k=F.O k:=fun k hk=>by
  cases k with
  |r q=>simp only[Nm.root] at hk;simp[G,hk]
  |c q i j=>rfl
 have hout:Out F w (w.alloc (.cells cs ty)):= .of_ext ((Ext.refl w).alloc _)
 have hl:Cx.Le w F G:=⟨fun b hb=>hb.imp id fun h=>by omega,fun k b hk=>by
  have:k.root≠s.nx:=fun e=>by rw[(hs.nx k (by omega)).1] at hk;cases hk
  rw[hGO k this];exact hk,fun k y hk=>hk⟩
 have hG: ∀b,F.F b→G.F b:=fun b hb=> .inl hb
 refine⟨G,?_, .of_ext hs.own ((Ext.refl w).alloc _),hl.lo,hbx_cons hs (Hbx.refl _) _⟩
 refine hs.new (h1:=s.h) (fun k o h=>h) hout (hs.ev.trans (.of_ext ((Ext.refl w).alloc _))) hl hG hGO (fun k hk=>rfl) (fun b hb=> ?_) (fun k o g hk hg=> ?_) (fun m o hm=> ?_) (fun m o g hm hg=> ?_) (fun m m' o o' g hm hm' _ _=>(Hget_box hm).1.trans (Hget_box hm').1.symm) (fun m y _ hy=>hs.wsl _ y hy) hd (.op _ _ _ (by simp[G]))
 ·rcases hb with hb|rfl
  ·have:=hs.flt b hb;simp;omega
  ·simp
 ·exact Below.heap_alloc w _ g (blk_lt hs hk hg)
 ·obtain⟨rfl,rfl⟩:=Hget_box hm
  exact⟨w.heap.size,cs,u,by simp[G],heap_alloc_new w _,h1,h2,fun j hj=>((h3 j hj).le hl).out (hout.le hG), .inr rfl⟩
 ·obtain⟨rfl,rfl⟩:=Hget_box hm
  have:g=w.heap.size:=by simpa [Cx.blk,G,eq_comm] using hg
  subst this
  refine⟨.inl hs.ev.size,fun hF=>by have:=hs.flt _ (hs.fold _ hF);omega,fun k o hk hg=> ?_⟩
  have:=blk_lt hs hk hg;omega
theorem vbox_ok (hs:Sat x s F a w) {d:Option Nat} {ty:TypeId} {v:V} {y:Value} {l:List Prop} {s':S} (h:vbox s d ty v=some (l,s')) (hd: ∀k,d=some k→k<x.n) (hv:Rep w F v y) (js:List Nat):
  ∃z w' G,(Instr.box ty y).run P w= .ok z w'∧Sat x s' G (a.put d z) w'∧Stp js s.h s'.h F G w w':=by
 unfold vbox at h
 split at h
 ·rename_i hc
  obtain⟨rfl,rfl⟩:=some_pair h
  obtain⟨u,h1,h2,h3⟩:=cells_of hs hc hv
  obtain⟨G,q1,q2⟩:=box_sat hs (ty:=ty) hd js h1 h2 h3
  exact⟨.pointer (some ⟨w.heap.size,0,none⟩),w.alloc (.cells y.cells ty),G,by simp[Instr.box,newVar,newRow],q1,q2⟩
 ·exact absurd h (by simp)
def zeroOf (P:Program) (t:TypeId):Option (List Value):=
 match P.info? t with
 |some i=>match i.zero with
  |some z=>some z.cells.toList
  |none=>none
 |none=>none
def valloc (P:Program) (s:S) (d:Option Nat) (ty:TypeId):Option (List Prop×S):=
 match zeroOf P ty with
 |some zs=>if (zs.all fun z=>z.oneCell')=true then some ([],⟨s.e.put d (.op s.nx 0),(s.nx, .box ty (.st (zs.map constV)))::s.h,s.nx+1⟩) else none
 |none=>none
theorem valloc_ok (hs:Sat x s F a w) {d:Option Nat} {ty:TypeId} {l:List Prop} {s':S} (h:valloc P s d ty=some (l,s')) (hd: ∀k,d=some k→k<x.n) (js:List Nat):
  ∃z w' G,(Instr.alloc ty true (.tuple #[])).run P w= .ok z w'∧Sat x s' G (a.put d z) w'∧Stp js s.h s'.h F G w w':=by
 unfold valloc at h
 split at h
 ·rename_i zs hz
  split at h
  ·rename_i h1
   obtain⟨rfl,rfl⟩:=some_pair h
   unfold zeroOf at hz
   split at hz
   ·rename_i i hi
    split at hz
    ·rename_i z hz'
     obtain rfl:z.cells.toList=zs:=by simpa using hz
     have hlen:(V.st (z.cells.toList.map constV)).csize=z.cells.size:=by simp[V.csize,V.parts]
     have hg: ∀j,j<z.cells.size→z.cells[j]?=some (z.cells.getD j undef):=fun j hj=>by simp[hj]
     obtain⟨G,q1,q2⟩:=box_sat hs (ty:=ty) (v:= .st (z.cells.toList.map constV)) (cs:=z.cells) (u:=fun j=>z.cells.getD j undef) hd js (by rw[hlen]) (fun j hj=>by
      rw[hlen] at hj
      refine⟨hg j hj,?_⟩
      have:=List.all_eq_true.1 h1 (z.cells.getD j undef) (by simp[hj])
      exact this) (fun j hj=>by
      rw[hlen] at hj
      have:(V.st (z.cells.toList.map constV)).cell j=constV (z.cells.getD j undef):=by
       simp[V.cell,List.getD_eq_getElem?_getD,hj]
      rw[this];exact constV_rep _)
     refine⟨.pointer (some ⟨w.heap.size,0,none⟩),w.alloc (.cells z.cells ty),G,?_,q1,q2⟩
     simp[Instr.alloc,zeroValue,typeInfo,hi,hz',newVar,newRow]
    ·cases hz
   ·cases hz
  ·exact absurd h (by simp)
 ·exact absurd h (by simp)
end
def setMany {α:Type} (l:List α) (o:Nat):List α→List α
 |[]=>l
 |x::r=>setMany (l.set o x) (o+1) r
theorem setMany_length {α:Type}: ∀(xs l:List α) (o:Nat),(setMany l o xs).length=l.length
 |[],_,_=>rfl
 |x::r,l,o=>by rw[setMany,setMany_length r];simp
theorem setMany_get {α:Type}: ∀(xs l:List α) (o k:Nat),o+xs.length≤l.length→(setMany l o xs)[k]?=if o≤k∧k<o+xs.length then xs[k-o]? else l[k]?
 |[],l,o,k,_=>by simp[setMany];omega
 |x::r,l,o,k,h=>by
  simp only[List.length_cons] at h⊢
  rw[setMany,setMany_get r _ _ _ (by simp;omega)]
  by_cases h1:k=o
  ·subst h1
   rw[if_neg (by omega),if_pos (by omega),Nat.sub_self,List.getElem?_cons_zero,List.getElem?_set_self (by omega)]
  ·by_cases h2:o+1≤k∧k<o+1+r.length
   ·rw[if_pos h2,if_pos (by omega),show k-o=(k-(o+1))+1 from by omega,List.getElem?_cons_succ]
   ·rw[if_neg h2,if_neg (by omega),List.getElem?_set_ne (by omega)]
theorem setMany_take {α:Type} (xs l:List α) (o n:Nat) (h:o+xs.length≤n) (hn:n≤l.length):(setMany l o xs).take n=setMany (l.take n) o xs:=by
 apply List.ext_getElem?
 intro k
 rw[List.getElem?_take,setMany_get _ _ _ _ (by omega),setMany_get _ _ _ _ (by simp;omega),List.getElem?_take]
 by_cases h1:k<n
 ·rw[if_pos h1,if_pos h1]
 ·rw[if_neg h1,if_neg h1,if_neg (by omega)]
theorem getD_set_eq {α:Type} (l:List α) (i:Nat) (x d:α) (h:i<l.length):(l.set i x).getD i d=x:=by
 simp[List.getD_eq_getElem?_getD,h]
theorem getD_set_ne {α:Type} (l:List α) (i k:Nat) (x d:α) (h:k≠i):(l.set i x).getD k d=l.getD k d:=by
 simp[List.getD_eq_getElem?_getD,Ne.symm h]
section
variable {P:Program} {x:Fx} {F:Cx} {w w':World} {a:Act} {s:S}
theorem Ev.setCells (b:Nat): ∀(vs:List Value) (o:Nat) (w:World),Ev (fun i=>i=b) w (w.setCells b o vs)
 |[],_,w=>Ev.refl _ w
 |v::r,o,w=>(show Ev (fun i=>i=b) w (w.setCell ⟨b,o,none⟩ v) from ⟨rfl,rfl,rfl,by simp[World.setCell],fun i _ hn=>Below.heap_setCell w ⟨b,o,none⟩ v i hn⟩).trans (Ev.setCells b r (o+1) _)
theorem setCells_size (b:Nat): ∀(vs:List Value) (o:Nat) (w:World),(w.setCells b o vs).heap.size=w.heap.size
 |[],_,w=>rfl
 |v::r,o,w=>by rw[World.setCells,setCells_size b r];simp[World.setCell]
theorem heap_setCell_at {w:World} {b j:Nat} {y:Value} {cs:Array Value} {ty:TypeId} (h:w.heap[b]?=some (.cells cs ty (0,0))):(w.setCell ⟨b,j,none⟩ y).heap[b]?=some (.cells (cs.setIfInBounds j y) ty (0,0)):=by
 simp[World.setCell,Array.getElem?_modify,h]
theorem heap_setCells_at {b:Nat} {ty:TypeId}: ∀(vs:List Value) (o:Nat) (w:World) (cs:Array Value),w.heap[b]?=some (.cells cs ty (0,0))→ ∃cs',(w.setCells b o vs).heap[b]?=some (.cells cs' ty (0,0))∧cs'.toList=setMany cs.toList o vs
 |[],_,w,cs,h=>⟨cs,h,rfl⟩
 |v::r,o,w,cs,h=>by
  obtain⟨cs',h1,h2⟩:=heap_setCells_at r (o+1) (w.setCell ⟨b,o,none⟩ v) (cs.setIfInBounds o v) (heap_setCell_at h)
  exact⟨cs',h1,by rw[h2,Array.toList_setIfInBounds];rfl⟩
theorem frozen_no {w:World} {b j:Nat} {cs:Array Value} {ty:TypeId} (h:w.heap[b]?=some (.cells cs ty (0,0))):w.frozen? ⟨b,j,none⟩=false:=by
 simp[World.frozen?,h]
theorem run_storeAt {t ty:TypeId} {g o:Nat} {cs:Array Value} {y:Value} (hheap:w.heap[g]?=some (.cells cs ty (0,0))) (hsz:P.cellsOf t=y.cells.size) (hpos:0<y.cells.size) (ho:o+y.cells.size≤cs.size) (h1: ∀v∈y.cells.toList,v.oneCell'=true):
  (Instr.storeAt t (.pointer (some ⟨g,o,none⟩)) y).run P w= .ok () (w.setCells g o y.cells.toList):=by
 have hst:=run_storeCells_cells (P:=P) g o y.cells.toList 0 w (fun j hj=>by
  rw[cell0 hheap];simp at hj;simp;omega) (fun j hj=>frozen_no hheap) h1
 have hs:=run_sizeOf' (P:=P) hsz hpos w
 simp[Instr.storeAt,Instr.sureAddr,storeVar,hs,hst]
theorem Sat.upd {k:Nm} {g:Nat} {ob:Ob} {h':List (Nat×Ob)} (hs:Sat x s F a w) (hk:Hget s.h k=some ob) (hg:F.blk k ob=some g) (hw:Ev (fun b=>b=g) w w')
  (hm: ∀m o',Hget h' m=some o'→(m=k∧F.blk m o'=some g∧ObOk w' F m o')∨(m≠k∧ ∃o,Hget s.h m=some o∧F.blk m o'=F.blk m o∧ ∀W,ObOk W F m o→ObOk W F m o')):
  Sat x {s with h:=h'} F a w':=by
 have hF:=blk_F hs hk hg
 have hout:Out F w w':=⟨hw.size,fun b hb hn=>hw.block b hb fun e=>hn (by rw[e];exact hF)⟩
 refine⟨⟨hw.os.trans hs.ev.os,hw.tape.trans hs.ev.tape,hw.output.trans hs.ev.output,Nat.le_trans hs.ev.size hw.size,fun b hb hX=> ?_⟩,fun t v ht=>⟨(hs.env t v ht).1,(hs.env t v ht).2.out hout⟩,hs.df,hs.sz,hs.fold,fun b hb=>Nat.lt_of_lt_of_le (hs.flt b hb) hw.size,hs.nx,fun m o hk'=> ?_,fun m o g' hk' hg'=> ?_,fun m o g' hk' hg'=> ?_,fun k1 k2 o1 o2 g' h1 h2 e1 e2=> ?_,hs.wsl,hs.le,x.J.out hs.inv hout.size hout.block fun b hb=> .inl hb⟩
 ·refine(hw.block b (Nat.lt_of_lt_of_le hb hs.ev.size) fun e=> ?_).trans (hs.ev.block b hb hX)
  subst e
  rcases hs.own2 k ob b hk hg with h|h
  ·omega
  ·exact hX h
 ·rcases hm m o hk' with ⟨_,_,h⟩|⟨hne,o0,h0,hb0,ht⟩
  ·exact h
  ·exact ht _ ((hs.own m o0 h0).keep hout (Cx.Le.refl w F) (fun b hb=>hb) fun g' hg'=>hw.block g' (blk_lt hs h0 hg') fun e=>hne (hs.sep m k o0 ob g h0 hk (by rw[←e];exact hg') hg))
 ·rcases hm m o hk' with ⟨rfl,h,_⟩|⟨hne,o0,h0,hb0,ht⟩
  ·rw[h] at hg'
   obtain rfl:g=g':=by simpa using hg'
   exact hs.own2 m ob g hk hg
  ·exact hs.own2 m o0 g' h0 (hb0▸hg')
 ·rcases hm m o hk' with ⟨rfl,h,_⟩|⟨hne,o0,h0,hb0,ht⟩
  ·rw[h] at hg'
   obtain rfl:g=g':=by simpa using hg'
   exact hs.own3 m ob g hk hg
  ·exact hs.own3 m o0 g' h0 (hb0▸hg')
 ·rcases hm k1 o1 h1 with ⟨rfl,h,_⟩|⟨hne,o0,h0,hb0,ht⟩
  ·rw[h] at e1
   obtain rfl:g=g':=by simpa using e1
   rcases hm k2 o2 h2 with ⟨rfl,h',_⟩|⟨hne',o0',h0',hb0',ht'⟩
   ·rfl
   ·exact hs.sep _ k2 ob o0' g hk h0' hg (hb0'▸e2)
  ·rcases hm k2 o2 h2 with ⟨rfl,h',_⟩|⟨hne',o0',h0',hb0',ht'⟩
   ·rw[h'] at e2
    obtain rfl:g=g':=by simpa using e2
    exact hs.sep k1 _ o0 ob g h0 hk (hb0▸e1) hg
   ·exact hs.sep k1 k2 o0 o0' g' h0 h0' (hb0▸e1) (hb0'▸e2)
def V.cellsL:V→List V
 | .st l=>l
 |v=>[v]
theorem cellsL_spec {v:V} (h:v.sto=true):v.cellsL.length=v.csize∧ ∀j,j<v.csize→v.cellsL.getD j .any=v.cell j:=by
 cases v with
 |st l=>exact⟨rfl,fun j _=>rfl⟩
 |_=>
  refine⟨rfl,fun j hj=> ?_⟩
  simp only[V.csize,V.parts] at hj
  obtain rfl:j=0:=by omega
  rfl
def V.setB (b:V) (j:Nat) (v:V):Option V:=
 match b with
 | .st cs=>if j+v.csize≤cs.length then some (.st (setMany cs j v.cellsL)) else none
 |_=>if b.sto=true∧j=0∧v.csize=1 then (match v with
  | .st [x]=>if x.one=true then some x else none
  |v=>some v) else none
theorem setB_ok {b b' v:V} {j:Nat} (h:b.setB j v=some b') (hv:v.sto=true):j+v.csize≤b.csize∧b'.csize=b.csize∧ ∀i,i<b.csize→b'.cell i=if j≤i∧i<j+v.csize then v.cell (i-j) else b.cell i:=by
 obtain⟨e1,e2⟩:=cellsL_spec hv
 unfold V.setB at h
 split at h
 ·rename_i cs
  split at h
  ·rename_i hle
   obtain rfl:V.st (setMany cs j v.cellsL)=b':=by simpa using h
   have hlen:=setMany_length v.cellsL cs j
   refine⟨hle,hlen,fun i hi=> ?_⟩
   show(setMany cs j v.cellsL).getD i .any=if _ then _ else cs.getD i .any
   rw[List.getD_eq_getElem?_getD,setMany_get _ _ _ _ (by rw[e1];exact hle),e1]
   by_cases hc:j≤i∧i<j+v.csize
   ·rw[if_pos hc,if_pos hc,←List.getD_eq_getElem?_getD,e2 _ (by omega)]
   ·rw[if_neg hc,if_neg hc,List.getD_eq_getElem?_getD]
  ·cases h
 ·rename_i hne
  split at h
  ·rename_i hc
   obtain⟨hb,rfl,hvc⟩:=hc
   have hbc:b.csize=1:=by
    cases b with
    |st l=>exact(hne l rfl).elim
    |_=>rfl
   have hb'c:b'.csize=1∧b'.cell 0=v.cell 0:=by
    split at h
    ·rename_i y
     split at h
     ·rename_i hy
      obtain rfl:y=b':=by simpa using h
      exact one_csize hy
     ·cases h
    ·rename_i v' hn
     obtain rfl:_=b':=by simpa using h
     exact⟨hvc,rfl⟩
   refine⟨by omega,by omega,fun i hi=> ?_⟩
   obtain rfl:i=0:=by omega
   rw[if_pos (by omega),hb'c.2]
  ·cases h
def V.setE (sv:V) (i j:Nat) (v:V):Option (List Prop×V):=
 match sv with
 | .by l=>match v with
  | .val (.int .u8 n)=>if j=0 then some ([0≤n,n<256], .by (l.set i (u8 n))) else none
  |_=>none
 | .sq sz d l=>match (l.getD i d).setB j v with
  |some b=>if (l.getD i d).csize=sz then some ([], .sq sz d (l.set i b)) else none
  |none=>none
 |_=>none
theorem setE_ok {sv sv' v:V} {i j sz n:Nat} {c:Nat→V} {l:List Prop} (h:sv.setE i j v=some (l,sv')) (hl:AllP l) (he:sv.elems=some (sz,n,c)) (hi:i<n) (hv:v.sto=true):
  ∃c',sv'.elems=some (sz,n,c')∧j+v.csize≤sz∧(∀m,m<sz→(c' i).cell m=if j≤m∧m<j+v.csize then v.cell (m-j) else (c i).cell m)∧ ∀k,k≠i→c' k=c k:=by
 unfold V.setE at h
 split at h
 ·rename_i l0
  split at h
  ·rename_i n0
   split at h
   ·rename_i hj
    subst hj
    obtain⟨rfl,rfl⟩:=some_pair h
    have h0:(0:Int)≤n0:=hl _ (by simp)
    have h1:n0<256:=hl _ (by simp)
    simp only[V.elems,Option.some.injEq,Prod.mk.injEq] at he
    obtain⟨rfl,rfl,rfl⟩:=he
    refine⟨fun m=> .val (.int .u8 (byteAt (l0.set i (u8 n0)) m)),by simp only[V.elems,List.length_set],by simp[V.csize,V.parts],fun m hm=> ?_,fun k hk=> ?_⟩
    ·obtain rfl:m=0:=by omega
     rw[if_pos ⟨Nat.le_refl _,by simp[V.csize,V.parts]⟩]
     show V.val (.int .u8 (byteAt _ _))= .val (.int .u8 n0)
     rw[byteAt,getD_set_eq l0 i _ 0 hi,u8_toNat n0 h0 h1]
    ·show V.val (.int .u8 (byteAt _ _))=V.val (.int .u8 (byteAt _ _))
     rw[byteAt,byteAt,getD_set_ne l0 i k _ 0 hk]
   ·cases h
  ·cases h
 ·rename_i sz0 d l0
  split at h
  ·rename_i b hb
   split at h
   ·rename_i hsz
    obtain⟨rfl,rfl⟩:=some_pair h
    simp only[V.elems] at he
    split at he
    ·cases he
    ·rename_i hz
     obtain⟨rfl,rfl,rfl⟩:sz0=sz∧l0.length=n∧_=c:=by simpa using he
     obtain⟨q1,q2,q3⟩:=setB_ok hb hv
     rw[hsz] at q1 q2 q3
     refine⟨fun k=>(l0.set i b).getD k d,by simp only[V.elems,if_neg hz,List.length_set],q1,fun m hm=> ?_,fun k hk=> ?_⟩
     ·show((l0.set i b).getD i d).cell m=_
      rw[getD_set_eq l0 i b d hi];exact q3 m hm
     ·exact getD_set_ne l0 i k b d hk
   ·cases h
  ·cases h
 ·cases h
def V.setO (sv:V) (i j:Nat) (v:V):Option V:=
 match sv with
 | .sq sz d l=>match l.getD i d with
  | .st cs=>if j<cs.length∧cs.length=sz then some (.sq sz d (l.set i (.st (cs.set j v)))) else none
  |_=>if sz=1∧j=0 then some (.sq sz d (l.set i v)) else none
 |_=>none
theorem setO_ok {sv sv' s':V} {i j sz n:Nat} {c:Nat→V} {ty:TypeId} {q:Option Nat} (h:sv.setO i j (.own ty s' q)=some sv') (he:sv.elems=some (sz,n,c)) (hi:i<n):
  ∃c',sv'.elems=some (sz,n,c')∧j<sz∧(c' i).cell j= .own ty s' q∧ ∀k m,(k≠i∨m≠j)→m<sz→(c' k).cell m=(c k).cell m:=by
 unfold V.setO at h
 split at h
 ·rename_i sz0 d l0
  simp only[V.elems] at he
  split at he
  ·cases he
  ·rename_i hz
   obtain⟨rfl,rfl,rfl⟩:sz0=sz∧l0.length=n∧_=c:=by simpa using he
   split at h
   ·rename_i cs hcs
    split at h
    ·rename_i hc
     obtain rfl:_=sv':=by simpa using h
     refine⟨fun k=>(l0.set i (.st (cs.set j (.own ty s' q)))).getD k d,by simp only[V.elems,if_neg hz,List.length_set],by omega,?_,fun k m hkm hm=> ?_⟩
     ·show((l0.set i _).getD i d).cell j=_
      rw[getD_set_eq l0 i _ d hi]
      simp[V.cell,List.getD_eq_getElem?_getD,hc.1]
     ·show((l0.set i _).getD k d).cell m=(l0.getD k d).cell m
      by_cases hk:k=i
      ·subst hk
       have hm':m≠j:=by rcases hkm with h|h;exact absurd rfl h;exact h
       rw[getD_set_eq l0 k _ d hi,hcs]
       simp[V.cell,List.getD_eq_getElem?_getD,Ne.symm hm']
      ·rw[getD_set_ne l0 i k _ d hk]
    ·cases h
   ·rename_i hne
    split at h
    ·rename_i hc
     obtain⟨rfl,rfl⟩:=hc
     obtain rfl:_=sv':=by simpa using h
     refine⟨fun k=>(l0.set i (.own ty s' q)).getD k d,by simp[V.elems,List.length_set],by omega,?_,fun k m hkm hm=> ?_⟩
     ·show((l0.set i _).getD i d).cell 0=_
      rw[getD_set_eq l0 i _ d hi]
      rfl
     ·have hk:k≠i:=by rcases hkm with h|h;exact h;omega
      show((l0.set i _).getD k d).cell m=(l0.getD k d).cell m
      rw[getD_set_ne l0 i k _ d hk]
    ·cases h
 ·cases h
end
end Go.Proofs.YtfengpdaocgcnaaGreatDoor
