/- Bytes as numbers. Plain Lean. Conditions of a piece of code, in plain terms: the values V, what they say of the machine's values (Rep), one's own memory. -/
import Derived.WalkKit
import Derived.Below
import Derived.Deep.Quiet
import Derived.Deep.LoopGhost
namespace Go.Proofs.YtfengpdaocgcnaaGreatDoor
def byteAt (l:List UInt8) (i:Nat):Int:=((l.getD i 0).toNat:Int)
theorem byteAt_lo (l:List UInt8) (i:Nat):0≤byteAt l i:=by unfold byteAt;omega
theorem byteAt_hi (l:List UInt8) (i:Nat):byteAt l i<256:=by unfold byteAt;have:=(l.getD i 0).toNat_lt;omega
theorem byteAt_cut (l:List UInt8) (a n i:Nat) (h:i<n):byteAt ((l.drop a).take n) i=byteAt l (a+i):=by
 unfold byteAt;simp[List.getD_eq_getElem?_getD,h]
def u8 (n:Int):UInt8:=UInt8.ofNat n.toNat
theorem u8_toNat (n:Int) (h0:0≤n) (h1:n<256):((u8 n).toNat:Int)=n:=by
 unfold u8
 rw[UInt8.toNat_ofNat']
 omega
open Go.RowKit
def Ext (w w':World):Prop:=Below w.heap.size w w'
theorem Ext.refl (w:World):Ext w w:=Below.refl _ _
theorem Ext.trans {a b c:World} (h:Ext a b) (k:Ext b c):Ext a c:=Below.trans h (Below.mono k h.size)
theorem Ext.drawn (w:World) (n:Nat):Ext w {w with drawn:=n}:=⟨rfl,rfl,rfl,Nat.le_refl _,fun _ _=>rfl⟩
theorem Ext.alloc {a b:World} (h:Ext a b) (o:Obj):Ext a (b.alloc o):=Below.alloc h h.size o
theorem Ext.cell {w w':World} (h:Ext w w') {b:Nat} (o:Nat) (hb:b<w.heap.size):w'.cell? ⟨b,o,none⟩=w.cell? ⟨b,o,none⟩:=Below.cell (p:=⟨b,o,none⟩) h hb
inductive Nm where
 |r (k:Nat)
 |c (k i j:Nat)
def Nm.root:Nm→Nat
 | .r k=>k
 | .c k _ _=>k
structure Cx where
 F:Nat→Prop
 O:Nm→Option Nat
 W:Nm→Option Value
inductive V where
 |val (x:Value)
 |bb (b:Bool)
 |str (l:List UInt8)
 |gd (g:Bool) (v:V)
 |by (l:List UInt8)
 |sq (sz:Nat) (d:V) (l:List V)
 |st (l:List V)
 |tu (l:List V)
 |pe (s:V) (i:Nat) (j:Nat)
 |op (k:Nat) (j:Nat)
 |ro (m:Nm)
 |vw (m:Nm) (sz a n:Nat)
 |rp (m:Nm) (sz i j:Nat)
 |own (ty:TypeId) (s:V) (q:Option Nat)
 |any
 |nn
 |ifc (t:TypeId) (v:V)
def V.i (n:Int):V:= .val (.int .i64 n)
def V.elems:V→Option (Nat×Nat×(Nat→V))
 | .by l=>some (1,l.length,fun i=> .val (.int .u8 (byteAt l i)))
 | .sq sz d l=>if sz=0 then none else some (sz,l.length,fun i=>l.getD i d)
 |_=>none
theorem elems_pos {s:V} {sz n:Nat} {c:Nat→V} (h:s.elems=some (sz,n,c)):0<sz:=by
 unfold V.elems at h
 split at h
 ·simp only[Option.some.injEq,Prod.mk.injEq] at h;omega
 ·split at h
  ·cases h
  ·simp only[Option.some.injEq,Prod.mk.injEq] at h;omega
 ·cases h
def V.cell:V→Nat→V
 | .st l,j=>l.getD j .any
 |v,_=>v
def V.parts:V→Option Nat
 | .st l=>some l.length
 |_=>none
def V.cut:V→Nat→Nat→Option V
 | .by l,a,b=>some (.by ((l.drop a).take (b-a)))
 | .sq sz d l,a,b=>some (.sq sz d ((l.drop a).take (b-a)))
 |_,_,_=>none
def V.csize (v:V):Nat:=match v.parts with|some n=>n|none=>1
def refV (m:Nm) (i j:Nat) (v:V):V:=
 match v with
 | .own _ s q=>match m with
  | .r k=>match q with
   |none=> .ro (.c k i j)
   |some n=>match s.elems with
    |some (sz,_,_)=> .vw (.c k i j) sz 0 n
    |none=> .any
  | .c _ _ _=> .any
 |v=>v
inductive Rep (w:World) (F:Cx):V→Value→Prop
 |val (x:Value):Rep w F (.val x) x
 |bb (b:Bool):Rep w F (.bb b) (.bool b)
 |str (l:List UInt8):Rep w F (.str l) (.string ⟨l.toArray⟩)
 |any (x:Value):Rep w F .any x
 |nn (t:TypeId) (x:Value):Rep w F .nn (.iface t x)
 |ifc (t:TypeId) (v:V) (x:Value):Rep w F v x→Rep w F (.ifc t v) (.iface t x)
 |gd (g:Bool) (v:V) (x:Value):(g=true→Rep w F v x)→(g=false→x=undef)→Rep w F (.gd g v) x
 |sl (s:V) (sz n:Nat) (c:Nat→V) (A:Option Addr) (cap b off:Nat) (u:Nat→Nat→Value):s.elems=some (sz,n,c)→n≤cap→(0<n→A=some ⟨b,off,none⟩∧b<w.heap.size∧ ¬F.F b)→
   (∀i,i<n→ ∀j,j<sz→w.cell? ⟨b,off+(i*sz+j),none⟩=some (u i j)∧(u i j).oneCell'=true)→(∀i,i<n→ ∀j,j<sz→Rep w F ((c i).cell j) (u i j))→Rep w F s (.slice A n cap)
 |pe (s:V) (sz n:Nat) (c:Nat→V) (i j b off:Nat) (u:Nat→Nat→Value):s.elems=some (sz,n,c)→i<n→b<w.heap.size→ ¬F.F b→
   (∀i,i<n→ ∀j,j<sz→w.cell? ⟨b,off+(i*sz+j),none⟩=some (u i j)∧(u i j).oneCell'=true)→(∀i,i<n→ ∀j,j<sz→Rep w F ((c i).cell j) (u i j))→Rep w F (.pe s i j) (.pointer (some ⟨b,off+(i*sz+j),none⟩))
 |op (k j b:Nat):F.O (.r k)=some b→Rep w F (.op k j) (.pointer (some ⟨b,j,none⟩))
 |ro (m:Nm) (x:Value):F.W m=some x→Rep w F (.ro m) x
 |vw (m:Nm) (sz a n N cap:Nat) (A B:Option Addr):F.W m=some (.slice A N cap)→(a+n≤N∧N≤cap∧(0<N→ ∃g,A=some ⟨g,0,none⟩))∧(a<cap→B=A.map (·.add (a*sz)))→Rep w F (.vw m sz a n) (.slice B n (cap-a))
 |rp (m:Nm) (sz i j g n cap:Nat):F.W m=some (.slice (some ⟨g,0,none⟩) n cap)→Rep w F (.rp m sz i j) (.pointer (some ⟨g,i*sz+j,none⟩))
 |st (l:List V) (cs:Array Value) (u:Nat→Value):cs.size=l.length→(∀j,j<l.length→cs[j]?=some (u j)∧(u j).oneCell'=true)→(∀j,j<l.length→Rep w F (l.getD j .any) (u j))→Rep w F (.st l) (.agg cs)
 |tu (l:List V) (cs:Array Value) (u:Nat→Value):cs.size=l.length→(∀j,j<l.length→cs[j]?=some (u j))→(∀j,j<l.length→Rep w F (l.getD j .any) (u j))→Rep w F (.tu l) (.tuple cs)
structure Out (F:Cx) (w w':World):Prop where
 size:w.heap.size≤w'.heap.size
 block: ∀b,b<w.heap.size→ ¬F.F b→w'.heap[b]?=w.heap[b]?
theorem Out.of_ext {F:Cx} {w w':World} (h:Ext w w'):Out F w w':=⟨h.size,fun b hb _=>h.block b hb⟩
theorem Rep.out {w w':World} {F:Cx} {v:V} {x:Value} (h:Rep w F v x) (hx:Out F w w'):Rep w' F v x:=by
 have hcell: ∀b o,b<w.heap.size→ ¬F.F b→w'.cell? ⟨b,o,none⟩=w.cell? ⟨b,o,none⟩:=fun b o h1 h2=>World.cell?_of_block (a:=⟨b,o,none⟩) (hx.block b h1 h2)
 induction h with
 |val x=>exact .val x
 |bb b=>exact .bb b
 |str l=>exact .str l
 |any x=>exact .any x
 |nn t x=>exact .nn t x
 |ifc t v x _ ih=>exact .ifc t v x ih
 |gd g v x _ hu ih=>exact .gd g v x ih hu
 |sl s sz n c A cap b off u he hcap hA hc _ ih=>
  refine .sl s sz n c A cap b off u he hcap (fun hn=>⟨(hA hn).1,Nat.lt_of_lt_of_le (hA hn).2.1 hx.size,(hA hn).2.2⟩) (fun i hi j hj=> ?_) ih
  rw[hcell _ _ (hA (by omega)).2.1 (hA (by omega)).2.2];exact hc i hi j hj
 |pe s sz n c i j b off u he hi hb hF hc _ ih=>
  refine .pe s sz n c i j b off u he hi (Nat.lt_of_lt_of_le hb hx.size) hF (fun i hi j hj=> ?_) ih
  rw[hcell _ _ hb hF];exact hc i hi j hj
 |op k j b hk=>exact .op k j b hk
 |ro k x hk=>exact .ro k x hk
 |vw m sz a n N cap A B hk hn=>exact .vw m sz a n N cap A B hk hn
 |rp k sz i j g n cap hk=>exact .rp k sz i j g n cap hk
 |st l cs u hs hc _ ih=>exact .st l cs u hs hc ih
 |tu l cs u hs hc _ ih=>exact .tu l cs u hs hc ih
theorem Rep.ext {w w':World} {F:Cx} {v:V} {x:Value} (h:Rep w F v x) (hx:Ext w w'):Rep w' F v x:=h.out (.of_ext hx)
structure Cx.Le (w:World) (F G:Cx):Prop where
 le1: ∀b,G.F b→F.F b∨w.heap.size≤b
 le2: ∀m b,F.O m=some b→G.O m=some b
 le3: ∀m x,F.W m=some x→G.W m=some x
theorem Cx.Le.refl (w:World) (F:Cx):Cx.Le w F F:=⟨fun _ h=> .inl h,fun _ _ h=>h,fun _ _ h=>h⟩
theorem Rep.le {w:World} {F G:Cx} {v:V} {x:Value} (h:Rep w F v x) (hx:Cx.Le w F G):Rep w G v x:=by
 have hF: ∀b,b<w.heap.size→ ¬F.F b→ ¬G.F b:=fun b hb h1 h2=>by
  rcases hx.le1 b h2 with h|h
  ·exact h1 h
  ·omega
 induction h with
 |val x=>exact .val x
 |bb b=>exact .bb b
 |str l=>exact .str l
 |any x=>exact .any x
 |nn t x=>exact .nn t x
 |ifc t v x _ ih=>exact .ifc t v x ih
 |gd g v x _ hu ih=>exact .gd g v x ih hu
 |sl s sz n c A cap b off u he hcap hA hc _ ih=>exact .sl s sz n c A cap b off u he hcap (fun hn=>⟨(hA hn).1,(hA hn).2.1,hF b (hA hn).2.1 (hA hn).2.2⟩) hc ih
 |pe s sz n c i j b off u he hi hb hn hc _ ih=>exact .pe s sz n c i j b off u he hi hb (hF b hb hn) hc ih
 |op k j b hk=>exact .op k j b (hx.le2 _ b hk)
 |ro k x hk=>exact .ro k x (hx.le3 k x hk)
 |vw m sz a n N cap A B hk hn=>exact .vw m sz a n N cap A B (hx.le3 _ _ hk) hn
 |rp k sz i j g n cap hk=>exact .rp k sz i j g n cap (hx.le3 k _ hk)
 |st l cs u hs hc _ ih=>exact .st l cs u hs hc ih
 |tu l cs u hs hc _ ih=>exact .tu l cs u hs hc ih
inductive Ob where
 |box (ty:TypeId) (v:V)
 |row (ty:TypeId) (s:V)
def Hroot:List (Nat×Ob)→Nat→Option Ob
 |[],_=>none
 |(k,v)::r,n=>if k=n then some v else Hroot r n
def Hchild:Option Ob→Nat→Nat→Option Ob
 |some (.row _ s),i,j=>match s.elems with
  |some (sz,n,c)=>if i<n∧j<sz then match (c i).cell j with
   | .own ty s' _=>some (.row ty s')
   |_=>none
   else none
  |none=>none
 |_,_,_=>none
def Hget (h:List (Nat×Ob)):Nm→Option Ob
 | .r k=>Hroot h k
 | .c k i j=>Hchild (Hroot h k) i j
theorem Hget_c {h:List (Nat×Ob)} {k i j:Nat} {ob:Ob} (hk:Hget h (.c k i j)=some ob):
  ∃ty s sz n c ty' s' q,Hroot h k=some (.row ty s)∧s.elems=some (sz,n,c)∧i<n∧j<sz∧(c i).cell j= .own ty' s' q∧ob= .row ty' s':=by
 simp only[Hget] at hk
 unfold Hchild at hk
 split at hk
 ·rename_i ty s hr
  split at hk
  ·rename_i sz n c he
   split at hk
   ·rename_i hij
    split at hk
    ·rename_i ty' s' q hc
     exact⟨ty,s,sz,n,c,ty',s',q,hr,he,hij.1,hij.2,hc,by simpa using hk.symm⟩
    ·cases hk
   ·cases hk
  ·cases hk
 ·cases hk
def Cx.blk (F:Cx) (m:Nm):Ob→Option Nat
 | .box _ _=>F.O m
 | .row _ _=>(F.W m).bind Value.ownBlock
def ObOk (w:World) (F:Cx) (m:Nm):Ob→Prop
 | .box ty v=> ∃(b:Nat) (cs:Array Value) (u:Nat→Value),F.O m=some b∧w.heap[b]?=some (.cells cs ty (0,0))∧cs.size=v.csize∧
   (∀j,j<v.csize→cs[j]?=some (u j)∧(u j).oneCell'=true)∧(∀j,j<v.csize→Rep w F (v.cell j) (u j))∧F.F b
 | .row ty s=> ∃(x:Value) (sz n:Nat) (c:Nat→V) (u:Nat→Nat→Value) (xs:List Value),F.W m=some x∧s.elems=some (sz,n,c)∧w.ownsRow 0 ty sz x n xs∧
   (∀i,i<n→ ∀j,j<sz→xs[i*sz+j]?=some (u i j))∧(∀i,i<n→ ∀j,j<sz→Rep w F (refV m i j ((c i).cell j)) (u i j))∧(∀y,y∈xs→y.oneCell'=true)∧(∀g,x.ownBlock=some g→F.F g)
def HOk (w:World) (F:Cx) (h:List (Nat×Ob)):Prop:= ∀m ob,Hget h m=some ob→ObOk w F m ob
theorem heap_lt {w:World} {b:Nat} {o:Obj} (h:w.heap[b]?=some o):b<w.heap.size:=by
 rcases Nat.lt_or_ge b w.heap.size with h1|h1
 ·exact h1
 ·rw[Array.getElem?_eq_none h1] at h;cases h
theorem ObOk.ext {w w':World} {F:Cx} {k:Nm} {ob:Ob} (h:ObOk w F k ob) (hx:Ext w w'):ObOk w' F k ob:=by
 cases ob with
 |box ty v=>
  obtain⟨b,cs,u,h1,h2,h3,h4,h5,h6⟩:=h
  exact⟨b,cs,u,h1,(hx.block b (heap_lt h2)).trans h2,h3,h4,fun j hj=>(h5 j hj).ext hx,h6⟩
 |row ty s=>
  obtain⟨x,sz,n,c,u,xs,h1,h2,h3,h4,h5,h6,h7⟩:=h
  refine⟨x,sz,n,c,u,xs,h1,h2,⟨h3.1,?_⟩,h4,fun i hi j hj=>(h5 i hi j hj).ext hx,h6,h7⟩
  rcases h3.2 with h|⟨g,cap,cur,e1,e2,e3,e4⟩
  ·exact .inl h
  ·exact .inr ⟨g,cap,cur,e1,e2,(hx.block g (heap_lt e3)).trans e3,e4⟩
theorem HOk.ext {w w':World} {F:Cx} {h:List (Nat×Ob)} (hh:HOk w F h) (hx:Ext w w'):HOk w' F h:=fun k ob hk=>(hh k ob hk).ext hx
structure Kp (rw:Bool) (js:List Nat) (h:List (Nat×Ob)) (F:Cx) (w w':World):Prop where
 size:w.heap.size≤w'.heap.size
 ro: ∀b,b<w.heap.size→ ¬F.F b→w'.heap[b]?=w.heap[b]?
 bx: ∀k ty v b,Hget h (.r k)=some (.box ty v)→F.O (.r k)=some b→ ∀j,js.contains j=false→w'.cell? ⟨b,j,none⟩=w.cell? ⟨b,j,none⟩
 row:rw=true→ ∀b,b<w.heap.size→w'.heap[b]?=w.heap[b]?
theorem Kp.of_ext {rw:Bool} {js:List Nat} {h:List (Nat×Ob)} {F:Cx} {w w':World} (hh:HOk w F h) (hx:Ext w w'):Kp rw js h F w w' where
 size:=hx.size
 ro:=fun b hb _=>hx.block b hb
 bx:=fun k ty v b hk hO j _=>by
  obtain⟨b',_,_,e,hb,_⟩:=hh _ _ hk
  rw[hO] at e
  obtain rfl:b=b':=by simpa using e
  exact hx.cell _ (heap_lt hb)
 row:=fun _ b hb=>hx.block b hb
theorem Kp.cell {rw:Bool} {js:List Nat} {h:List (Nat×Ob)} {F:Cx} {w w':World} (hx:Kp rw js h F w w') {b:Nat} (o:Nat) (hb:b<w.heap.size) (hF: ¬F.F b):w'.cell? ⟨b,o,none⟩=w.cell? ⟨b,o,none⟩:=World.cell?_of_block (a:=⟨b,o,none⟩) (hx.ro b hb hF)
def Hbx (h h':List (Nat×Ob)):Prop:= ∀k ty v,Hget h (.r k)=some (.box ty v)→ ∃v',Hget h' (.r k)=some (.box ty v')
theorem Hbx.refl (h:List (Nat×Ob)):Hbx h h:=fun _ _ v hk=>⟨v,hk⟩
theorem Hbx.trans {a b c:List (Nat×Ob)} (h:Hbx a b) (k:Hbx b c):Hbx a c:=fun n ty v hk=>by
 obtain⟨v',h1⟩:=h n ty v hk
 exact k n ty v' h1
structure Cx.Lo (w:World) (F G:Cx):Prop where
 le1: ∀b,G.F b→F.F b∨w.heap.size≤b
 le2: ∀m b,F.O m=some b→G.O m=some b
theorem Cx.Le.lo {w:World} {F G:Cx} (h:Cx.Le w F G):Cx.Lo w F G:=⟨h.le1,h.le2⟩
structure Stp (js:List Nat) (h h':List (Nat×Ob)) (F F':Cx) (w w':World):Prop where
 kp:Kp false js h F w w'
 le:Cx.Lo w F F'
 bx:Hbx h h'
theorem Cx.Le.trans {w w':World} {F G H:Cx} (h:Cx.Le w F G) (k:Cx.Le w' G H) (hw:w.heap.size≤w'.heap.size):Cx.Le w F H where
 le1:=fun b hb=>(k.le1 b hb).elim (h.le1 b) fun e=> .inr (Nat.le_trans hw e)
 le2:=fun n b hb=>k.le2 n b (h.le2 n b hb)
 le3:=fun n b hb=>k.le3 n b (h.le3 n b hb)
theorem Cx.Lo.trans {w w':World} {F G H:Cx} (h:Cx.Lo w F G) (k:Cx.Lo w' G H) (hw:w.heap.size≤w'.heap.size):Cx.Lo w F H where
 le1:=fun b hb=>(k.le1 b hb).elim (h.le1 b) fun e=> .inr (Nat.le_trans hw e)
 le2:=fun n b hb=>k.le2 n b (h.le2 n b hb)
theorem Kp.step {js:List Nat} {h h':List (Nat×Ob)} {F F':Cx} {w w' w'':World} (hs:Stp js h h' F F' w w') (k:Kp false js h' F' w' w''):Kp false js h F w w'' where
 size:=Nat.le_trans hs.kp.size k.size
 ro:=fun b hb hF=>(k.ro b (Nat.lt_of_lt_of_le hb hs.kp.size) fun hG=>(hs.le.le1 b hG).elim hF fun e=>by omega).trans (hs.kp.ro b hb hF)
 bx:=fun n ty v b hk hO j hj=>by
  obtain⟨v',hk'⟩:=hs.bx n ty v hk
  exact(k.bx n ty v' b hk' (hs.le.le2 _ b hO) j hj).trans (hs.kp.bx n ty v b hk hO j hj)
 row:=fun h=>by cases h
theorem Stp.trans {js:List Nat} {h h' h'':List (Nat×Ob)} {F F' F'':Cx} {w w' w'':World} (a:Stp js h h' F F' w w') (b:Stp js h' h'' F' F'' w' w''):Stp js h h'' F F'' w w'':=
 ⟨Kp.step a b.kp,a.le.trans b.le a.kp.size,a.bx.trans b.bx⟩
theorem Stp.refl (js:List Nat) (h:List (Nat×Ob)) (F:Cx) (w:World):Stp js h h F F w w:=⟨⟨Nat.le_refl _,fun _ _ _=>rfl,fun _ _ _ _ _ _ _ _=>rfl,fun _ _ _=>rfl⟩,(Cx.Le.refl w F).lo,Hbx.refl h⟩
abbrev En:=List (Nat×V)
def En.get:En→Nat→Option V
 |[],_=>none
 |(k,v)::r,n=>if k=n then some v else En.get r n
def constV:Value→V
 | .bool b=> .bb b
 | .string s=> .str s.data.toList
 |v=> .val v
theorem constV_rep {w:World} {F:Cx} (v:Value):Rep w F (constV v) v:=by
 cases v<;>simp only[constV]<;>first
  |exact .bb _
  |exact .str _
  |exact .val _
structure Gl where
 g:Nat→Option V
 P:Option Program:=none
 lk:TypeId→Value→List UInt8→Option Int:=fun _ _ _=>none
instance:CoeFun Gl fun _=>Nat→Option V:=⟨Gl.g⟩
def En.ev (gl:Gl) (e:En):Operand→Option V
 | .tmp t=>e.get t
 | .const v=>some (constV v)
 | .global g=>gl g
 | .func f=>some (.val (.func (.func f) #[] #[]))
def En.put (e:En) (d:Option Nat) (v:V):En:=match d with|some d=>(d,v)::e|none=>e
structure Inv where
 I:World→(Nat→Prop)→Prop
 out: ∀{w w':World} {F F':Nat→Prop},I w F→w.heap.size≤w'.heap.size→(∀b,b<w.heap.size→ ¬F b→w'.heap[b]?=w.heap[b]?)→(∀b,F' b→F b∨w.heap.size≤b)→I w' F'
 gl:Gl
 lkOk: ∀{w:World} {F:Nat→Prop} (P:Program) (t:TypeId) (m:Value) (s:List UInt8) (z:Int),gl.P=some P→gl.lk t m s=some z→I w F→(Instr.lookup t m (.string ⟨s.toArray⟩) false).run P w= .ok (.int .i64 z) w
 glOk: ∀{w:World} {F:Nat→Prop} (g:Nat) (v:V),gl g=some v→I w F→ ∀(O:Nm→Option Nat) (W:Nm→Option Value),Rep w ⟨F,O,W⟩ v (.pointer (some ⟨g,0,none⟩))
def EnvOk (w:World) (F:Cx) (e:En) (a:Act):Prop:= ∀t v,e.get t=some v→t<a.tmps.size∧Rep w F v (a.tmps.getD t undef)
theorem EnvOk.ext {w w':World} {F:Cx} {e:En} {a:Act} (h:EnvOk w F e a) (hx:Ext w w'):EnvOk w' F e a:=fun t v ht=>⟨(h t v ht).1,(h t v ht).2.ext hx⟩
theorem EnvOk.ev {w:World} {F:Cx} {e:En} {a:Act} {J:Inv} (h:EnvOk w F e a) (hi:J.I w F.F) {x:Operand} {v:V} (hx:e.ev J.gl x=some v):Rep w F v (a.eval x):=by
 cases x with
 |tmp t=>exact(h t v hx).2
 |const c=>
  simp only[En.ev,Option.some.injEq] at hx;subst hx
  exact constV_rep c
 |global g=>exact J.glOk g v hx hi F.O F.W
 |func f=>
  simp only[En.ev,Option.some.injEq] at hx;subst hx
  exact .val _
theorem EnvOk.put {w:World} {F:Cx} {e:En} {a:Act} (h:EnvOk w F e a) {d:Option Nat} {v:V} {x:Value} (hd: ∀k,d=some k→k<a.tmps.size) (hx:Rep w F v x):EnvOk w F (e.put d v) (a.put d x):=by
 cases d with
 |none=>exact h
 |some d=>
  intro t v' ht
  have hlt:=hd d rfl
  simp only[En.put,En.get] at ht
  simp only[Act.put,Array.size_setIfInBounds]
  split at ht
  ·rename_i hdt
   subst hdt
   simp only[Option.some.injEq] at ht
   subst ht
   refine⟨hlt,?_⟩
   simpa [Array.getD,hlt] using hx
  ·rename_i hdt
   obtain⟨h1,h2⟩:=h t v' ht
   refine⟨h1,?_⟩
   have:(a.tmps.setIfInBounds d x).getD t undef=a.tmps.getD t undef:=by
    simp only[Array.getD_eq_getD_getElem?]
    rw[Array.getElem?_setIfInBounds_ne hdt]
   rw[this];exact h2
end Go.Proofs.YtfengpdaocgcnaaGreatDoor
