/- One's own memory: slice literals, make, structs. -/
import Derived.Test.YtfengpdaocgcnaaGreatDoorQ06
import Derived.Laws.OwnMore
namespace Go.Proofs.YtfengpdaocgcnaaGreatDoor
open Go.RowKit
def ug:Option V→Option (V×List Prop)
 |some (.gd h v)=>some (v,[h=true])
 |some v=>some (v,[])
 |none=>none
def uls (gl:Gl) (e:En):List Operand→Option (List V×List Prop)
 |[]=>some ([],[])
 |o::r=>match ug (e.ev gl o) with
  |some (v,l)=>match uls gl e r with
   |some (vs,l')=>some (v::vs,l++l')
   |none=>none
  |none=>none
section
variable {P:Program} {x:Fx} {F:Cx} {w w':World} {a:Act} {s:S}
theorem ug_ok {o:Option V} {v:V} {l:List Prop} {y:Value} (h:ug o=some (v,l)) (hl:AllP l) (hv: ∀v,o=some v→Rep w F v y):Rep w F v y:=by
 unfold ug at h
 split at h
 ·obtain⟨rfl,rfl⟩:=some_pair h
  exact rep_gd (hv _ rfl) (hl _ (by simp))
 ·obtain⟨rfl,rfl⟩:=some_pair h
  exact hv _ rfl
 ·cases h
theorem uls_ok {J:Inv} {e:En} (he:EnvOk w F e a) (hi:J.I w F.F): ∀{ops:List Operand} {vs:List V} {l:List Prop},uls J.gl e ops=some (vs,l)→AllP l→vs.length=ops.length∧ ∀(i:Nat) (v:V) (y:Value),vs[i]?=some v→(ops.map a.eval)[i]?=some y→Rep w F v y:=by
 intro ops
 induction ops with
 |nil=>intro vs l h _;obtain⟨rfl,rfl⟩:=some_pair h;exact⟨rfl,fun i v y hv=>by simp at hv⟩
 |cons o r ih=>
  intro vs l h hl
  simp only[uls] at h
  split at h
  ·rename_i v l1 hv
   split at h
   ·rename_i vs' l2 hr
    obtain⟨rfl,rfl⟩:=some_pair h
    obtain⟨h1,h2⟩:=allP_app hl
    obtain⟨q1,q2⟩:=ih hr h2
    refine⟨by simp[q1],fun i u y hu hy=> ?_⟩
    cases i with
    |zero=>
     simp only[List.getElem?_cons_zero,Option.some.injEq,List.map_cons] at hu hy
     subst hu hy
     exact ug_ok hv h1 fun v hv=>he.ev hi hv
    |succ i=>exact q2 i u y (by simpa using hu) (by simpa using hy)
   ·cases h
  ·cases h
def rowInfo (P:Program) (e:TypeId):Option (Nat×Nat):=
 match P.info? e with
 |some i=>match i.zero with
  |some z=>if z.cells.size=i.size∧0<i.size then some (i.size,i.bytes) else none
  |none=>none
 |none=>none
theorem rowInfo_ok {e:TypeId} {sz by':Nat} (h:rowInfo P e=some (sz,by')): ∃i z,P.info? e=some i∧i.zero=some z∧i.size=sz∧i.bytes=by'∧z.cells.size=sz∧0<sz:=by
 unfold rowInfo at h
 split at h
 ·rename_i i hi
  split at h
  ·rename_i z hz
   split at h
   ·rename_i hc
    obtain⟨h1,h2⟩:=some_pair h
    exact⟨i,z,hi,hz,h1,h2,by rw[←h1];exact hc.1,by rw[←h1];exact hc.2⟩
   ·exact absurd h (by simp)
  ·exact absurd h (by simp)
 ·exact absurd h (by simp)
def inOrd:Nat→List (Nat×Operand)→Bool
 |_,[]=>true
 |i,(k,_)::r=>decide (k=i)&&inOrd (i+1) r
theorem inOrd_ok (f:Operand→Value): ∀(ps:List (Nat×Operand)) (i:Nat),inOrd i ps=true→ps.map (fun p=>(p.1,f p.2))=(((ps.map (·.2)).map f).zipIdx i).map fun x=>(x.2,x.1):=by
 intro ps
 induction ps with
 |nil=>intro i _;rfl
 |cons p r ih=>
  obtain⟨k,o⟩:=p
  intro i h
  simp only[inOrd,Bool.and_eq_true,decide_eq_true_eq] at h
  obtain⟨rfl,h⟩:=h
  simp only[List.map_cons,List.zipIdx_cons,ih _ h]
def mkBy:List V→Option (List Prop×List UInt8)
 |[]=>some ([],[])
 | .val (.int .u8 n)::r=>match mkBy r with
  |some (l,bs)=>some ((0≤n)::(n<256)::l,u8 n::bs)
  |none=>none
 |_=>none
theorem mkBy_ok: ∀{vs:List V} {l:List Prop} {bs:List UInt8},mkBy vs=some (l,bs)→AllP l→bs.length=vs.length∧ ∀(i:Nat) (v:V),vs[i]?=some v→v= .val (.int .u8 (byteAt bs i)):=by
 intro vs
 induction vs with
 |nil=>intro l bs h _;simp only[mkBy,Option.some.injEq,Prod.mk.injEq] at h;obtain⟨_,rfl⟩:=h;exact⟨rfl,fun i v hv=>by simp at hv⟩
 |cons v r ih=>
  intro l bs h hl
  unfold mkBy at h
  split at h
  ·rename_i he;cases he
  ·rename_i n r' he
   obtain⟨rfl,rfl⟩:v= .val (.int .u8 n)∧r=r':=by simpa using he
   split at h
   ·rename_i l0 bs0 hr
    obtain⟨rfl,rfl⟩:=some_pair h
    have h0:(0:Int)≤n:=hl _ (by simp)
    have h1:n<256:=hl _ (by simp)
    obtain⟨h2,h3⟩:=ih hr (fun p hp=>hl p (by simp[hp]))
    refine⟨by simp[h2],fun i v hv=> ?_⟩
    cases i with
    |zero=>
     simp only[List.getElem?_cons_zero,Option.some.injEq] at hv
     subst hv
     simp only[byteAt,List.getD_cons_zero,u8_toNat n h0 h1]
    |succ i=>
     have:=h3 i v (by simpa using hv)
     simpa [byteAt] using this
   ·exact absurd h (by simp)
  ·exact absurd h (by simp)
def mkSl (P:Program) (df:TypeId→V) (el:TypeId) (sz:Nat) (vs:List V):Option (List Prop×V):=
 match P.underlying el with
 |some (.int .u8)=>match mkBy vs with
  |some (l,bs)=>if sz=1 then some (l, .by bs) else none
  |none=>none
 |_=>if sz=0∨(vs.all fun v=>v.sto&&v.csize==sz)=false then none else some ([], .sq sz (df el) vs)
theorem mkSl_ok {df:TypeId→V} {el:TypeId} {sz:Nat} {vs:List V} {l:List Prop} {sv:V} (h:mkSl P df el sz vs=some (l,sv)) (hl:AllP l):
  ∃c,sv.elems=some (sz,vs.length,c)∧ ∀(i:Nat) (v:V),vs[i]?=some v→v.sto=true∧v.csize=sz∧ ∀j,j<sz→(c i).cell j=v.cell j:=by
 unfold mkSl at h
 split at h
 ·split at h
  ·rename_i l0 bs hb
   split at h
   ·rename_i hsz
    subst hsz
    obtain⟨rfl,rfl⟩:=some_pair h
    obtain⟨h1,h2⟩:=mkBy_ok hb hl
    refine⟨_,by rw[←h1];rfl,fun i v hv=> ?_⟩
    have:=h2 i v hv
    subst this
    exact⟨rfl,rfl,fun j hj=>rfl⟩
   ·cases h
  ·cases h
 ·split at h
  ·cases h
  ·rename_i hc
   obtain⟨rfl,rfl⟩:=some_pair h
   have hsz: ¬sz=0:=fun e=>hc (.inl e)
   have hall:(vs.all fun v=>v.sto&&v.csize==sz)=true:=by
    cases he:(vs.all fun v=>v.sto&&v.csize==sz)
    ·exact absurd (.inr he) hc
    ·rfl
   refine⟨fun i=>vs.getD i (df el),by simp only[V.elems,if_neg hsz],fun i v hv=> ?_⟩
   have hv':=List.all_eq_true.1 hall v (List.mem_of_getElem? hv)
   simp only[Bool.and_eq_true,beq_iff_eq] at hv'
   exact⟨hv'.1,hv'.2,fun j _=>by show(vs.getD i (df el)).cell j=_;rw[List.getD_eq_getElem?_getD,hv];rfl⟩
theorem cell_own_false {sv:V} {sz n:Nat} {c:Nat→V} {i j:Nat} {y:Value} (hr:Rep w F ((c i).cell j) y) (_:sv.elems=some (sz,n,c)): ∀ty t q,(c i).cell j≠ .own ty t q:=fun ty t q e=>by
 rw[e] at hr;exact rep_own hr
def vbuildSlice (P:Program) (gl:Gl) (df:TypeId→V) (s:S) (d:Option Nat) (t n:Nat) (ps:List (Nat×Operand)):Option (List Prop×S):=
 match P.underlying t with
 |some (.slice el)=>match rowInfo P el,uls gl s.e (ps.map (·.2)) with
  |some (sz,_),some (vs,l)=>if inOrd 0 ps=true∧n=ps.length∧n*sz≤16777216 then
    match mkSl P df el sz vs with
    |some (l2,sv)=>some (l++l2,⟨s.e.put d (.ro (.r s.nx)),(s.nx, .row el sv)::HdelK s.h [],s.nx+1⟩)
    |none=>none
   else none
  |_,_=>none
 |_=>none
theorem run_buildNone (t el:TypeId) (i:TypeInfo) (ht:P.underlying t=some (.slice el)) (hi:P.info? el=some i):(Instr.buildSlice t 0 #[]).run P w= .ok (.slice (some ⟨w.heap.size,0,none⟩) 0 0) (w.alloc (.cells #[] el)):=by
 have e: ∀f:Nat→Value,Array.map f (Array.range 0)= #[]:=fun f=>by simp
 simp[Instr.buildSlice,run_underlying ht,sizeOf,typeInfo,hi,Instr.fill,newRow,e]
theorem run_build0 {t el:TypeId} {n sz:Nat} {parts:List (Nat×Value)} {xs:List Value} {i:TypeInfo} {z:Value} (ht:P.underlying t=some (.slice el)) (hi:P.info? el=some i) (hz:i.zero=some z) (hsz:i.size=sz) (hszp:0<sz)
  (hn:n=parts.length) (hxs:xs.length=n*sz) (hsm:n*sz≤16777216) (hfill:Instr.fill (fun i=>some (i*sz,sz)) ((Array.range (n*sz)).map (z.cells[· %z.cells.size]!)) parts.toArray.toList=some xs.toArray):
  (Instr.buildSlice t n parts.toArray).run P w= .ok (.slice (some ⟨w.heap.size,0,none⟩) n n) (w.alloc (.cells xs.toArray el)):=by
 rcases Nat.eq_zero_or_pos n with h0|hpos
 ·have hps:parts=[]:=List.length_eq_zero_iff.1 (by omega)
  have hx0:xs=[]:=List.length_eq_zero_iff.1 (by rw[hxs,h0,Nat.zero_mul])
  rw[hx0,hps,h0]
  exact run_buildNone t el i ht hi
 ·exact run_buildSlice (P:=P) w t el n parts.toArray xs.toArray i z ht hi hz (by rw[hsz];omega) (by rw[hsz];have:=Nat.mul_pos hpos hszp;omega) (by rw[hsz];exact hfill)
theorem vbuildSlice_ok (hs:Sat x s F a w) {df:TypeId→V} {d:Option Nat} {t n:Nat} {ps:List (Nat×Operand)} {l:List Prop} {s':S} (h:vbuildSlice P x.J.gl df s d t n ps=some (l,s')) (hl:AllP l) (hd: ∀k,d=some k→k<x.n):
  ∃z w' G,(Instr.buildSlice t n (ps.map fun p=>(p.1,a.eval p.2)).toArray).run P w= .ok z w'∧Sat x s' G (a.put d z) w'∧(∀js,Stp js s.h s'.h F G w w')∧ ∀b,b<w.heap.size→w'.heap[b]?=w.heap[b]?:=by
 unfold vbuildSlice at h
 split at h
 ·rename_i el ht
  split at h
  ·rename_i sz by' vs l1 hri hvl
   split at h
   ·rename_i hc
    obtain⟨hord,hn,hsm⟩:=hc
    split at h
    ·rename_i l2 sv hmk
     obtain⟨rfl,rfl⟩:=some_pair h
     obtain⟨hl1,hl2⟩:=allP_app hl
     obtain⟨i,z,hi,hz,hsz,hby,hzs,hszp⟩:=rowInfo_ok hri
     obtain⟨hlen,hvs⟩:=uls_ok hs.env hs.inv hvl hl1
     obtain⟨c,he,hcv⟩:=mkSl_ok hmk hl2
     let ys:=(ps.map (·.2)).map a.eval
     have hyl:ys.length=n:=by simp[ys,hn]
     have hvl':vs.length=n:=by rw[hlen,List.length_map,hn]
     have hel: ∀(i:Nat) (hi:i<n),∃u:Nat→Value,(ys[i]'(by omega)).cells.size=sz∧(∀j,j<sz→(ys[i]'(by omega)).cells[j]?=some (u j)∧(u j).oneCell'=true)∧ ∀j,j<sz→Rep w F ((c i).cell j) (u j):=by
      intro i hi
      have h1:vs[i]?=some (vs[i]'(by omega)):=List.getElem?_eq_getElem (by omega)
      have h2:ys[i]?=some (ys[i]'(by omega)):=List.getElem?_eq_getElem (by omega)
      obtain⟨g1,g2,g3⟩:=hcv i _ h1
      obtain⟨u,q1,q2,q3⟩:=cells_of hs g1 (hvs i _ _ h1 h2)
      rw[g2] at q1 q2 q3
      exact⟨u,q1,q2,fun j hj=>by rw[g3 j hj];exact q3 j hj⟩
     have hcs: ∀y∈ys,y.cells.size=sz:=by
      intro y hy
      obtain⟨i,hi,rfl⟩:=List.getElem_of_mem hy
      obtain⟨u,h,_⟩:=hel i (by omega)
      exact h
     let xs:=ys.flatMap fun v=>v.cells.toList
     have hxs:xs.length=n*sz:=by
      have: ∀l:List Value,(∀y∈l,y.cells.size=sz)→(l.flatMap fun v=>v.cells.toList).length=l.length*sz:=by
       intro l
       induction l with
       |nil=>simp
       |cons y r ih=>
        intro hy
        rw[List.flatMap_cons,List.length_append,ih (fun y hy'=>hy y (List.mem_cons_of_mem _ hy')),Array.length_toList,hy y (List.mem_cons_self ..),List.length_cons,Nat.add_mul];omega
      rw[this ys hcs,hyl]
     have hfill:Instr.fill (fun i=>some (i*sz,sz)) ((Array.range (n*sz)).map (z.cells[· %z.cells.size]!)) (ps.map fun p=>(p.1,a.eval p.2)).toArray.toList=some xs.toArray:=by
      rw[List.toList_toArray,inOrd_ok a.eval ps 0 hord]
      exact Great.fill_whole hszp ys _ hcs (by simp[hyl])
     have hrun:=run_build0 (P:=P) (w:=w) (parts:=ps.map fun p=>(p.1,a.eval p.2)) (xs:=xs) ht hi hz hsz hszp (by simp[hn]) hxs hsm hfill
     let u:Nat→Nat→Value:=fun i j=>((ys.getD i undef).cells.getD j undef)
     have hu: ∀i,i<n→ ∀j,j<sz→xs[i*sz+j]?=some (u i j)∧(u i j).oneCell'=true∧Rep w F ((c i).cell j) (u i j):=by
      intro i hi j hj
      obtain⟨u',q1,q2,q3⟩:=hel i hi
      have e1:ys[i]?=some (ys[i]'(by omega)):=List.getElem?_eq_getElem (by omega)
      have e2:u i j=u' j:=by
       simp only[u,List.getD_eq_getElem?_getD,e1,Option.getD_some,Array.getD_eq_getD_getElem?,(q2 j hj).1]
      refine⟨?_,by rw[e2];exact(q2 j hj).2,by rw[e2];exact q3 j hj⟩
      show(ys.flatMap fun v=>v.cells.toList)[i*sz+j]?=_
      rw[Great.flat_get hszp ys hcs,show(i*sz+j)/sz=i from by rw[Nat.add_comm,Nat.add_mul_div_right _ _ hszp,Nat.div_eq_of_lt hj];omega,show(i*sz+j)%sz=j from by rw[Nat.add_comm,Nat.add_mul_mod_self_right];exact Nat.mod_eq_of_lt hj,e1,e2]
      exact(q2 j hj).1
     obtain⟨G,g1,g2⟩:=row_new (w':=w.alloc (.cells xs.toArray el)) (ks:=[]) (el:=el) (sz:=sz) (N:=n) (v':= .slice (some ⟨w.heap.size,0,none⟩) n n) (XS:=xs) (c:=sv) (cc:=c) (u:=u) (τ:=fun _ _=>none) (B:=none) hs hd
      ⟨hxs, .inr ⟨w.heap.size,n,xs.toArray,rfl,Nat.zero_le _,heap_alloc_new w _,Nat.le_refl _,by unfold maxLen;have:n*1≤n*sz:=Nat.mul_le_mul_left _ hszp;omega,by simp[hxs],by simp[←hxs]⟩⟩
      (by rw[he,hvl']) (World.grownBy_alloc w _ none) rfl (fun g hg=>by cases hg) (.inr (.inl rfl)) (fun i hi j hj=>(hu i hi j hj).1) (fun y hy=>by
       obtain⟨k,hk,rfl⟩:=List.getElem_of_mem hy
       have hk':k/sz<n:=by rw[hxs] at hk;exact Nat.div_lt_of_lt_mul (by rw[Nat.mul_comm];exact hk)
       obtain⟨q1,q2,_⟩:=hu (k/sz) hk' (k%sz) (Nat.mod_lt _ hszp)
       rw[show k/sz*sz+k%sz=k from by rw[Nat.mul_comm];exact Nat.div_add_mod k sz,List.getElem?_eq_getElem hk] at q1
       rw[Option.some.inj q1];exact q2) (fun i hi j hj _=>(hu i hi j hj).2.2) (fun i hi j hj ty t q e=>absurd e (cell_own_false (hu i hi j hj).2.2 he ty t q)) (fun i j i' j' m e=>by cases e)
     exact⟨_,_,G,hrun,g1,g2,fun b hb=>(World.grownBy_alloc w _ none).block b hb (by simp)⟩
    ·exact absurd h (by simp)
   ·exact absurd h (by simp)
  ·exact absurd h (by simp)
 ·exact absurd h (by simp)
def zeroE (zs:List Value):V:=
 match zs with
 |[z]=>constV z
 |zs=> .st (zs.map constV)
def zeroS (P:Program) (df:TypeId→V) (el:TypeId) (sz n:Nat) (zs:List Value):Option (List Prop×V):=
 match P.underlying el with
 |some (.int .u8)=>match zs with
  |[.int .u8 z]=>some ([z=0], .by (List.replicate n 0))
  |_=>none
 |_=>some ([], .sq sz (df el) (List.replicate n (zeroE zs)))
def capC (n c:Int):Prop:=n≤c
theorem capC_self (n:Int):capC n n=True:=eq_true (Int.le_refl n)
theorem capC_zero (c:Int):capC 0 c=(0≤c):=rfl
theorem made_take (z:Array Value) {a b:Nat} (h:b≤a):(madeCells z a).toList.take b=(madeCells z b).toList:=by
 apply List.ext_getElem?
 intro k
 rw[List.getElem?_take]
 by_cases hk:k<b
 ·rw[if_pos hk]
  simp[madeCells,hk,Nat.lt_of_lt_of_le hk h]
 ·rw[if_neg hk]
  simp[madeCells,hk]
def vmake (P:Program) (df:TypeId→V) (s:S) (d:Option Nat) (t:TypeId) (p q:V):Option (List Prop×S):=
 match P.underlying t,p,q with
 |some (.slice el), .val (.int _ n), .val (.int _ n')=>match rowInfo P el,zeroOf P el with
  |some (sz,bs),some zs=>if (zs.all fun z=>z.oneCell')=true then match zeroS P df el sz n.toNat zs with
    |some (l,c)=>some (capC n n'::(0≤n)::(n'*bs≤281474976710656)::(n'≤281474976710656)::l,⟨s.e.put d (.ro (.r s.nx)),(s.nx, .row el c)::HdelK s.h [],s.nx+1⟩)
    |none=>none
    else none
  |_,_=>none
 |_,_,_=>none
theorem zeroOf_ok {t:TypeId} {zs:List Value} (h:zeroOf P t=some zs): ∃i z,P.info? t=some i∧i.zero=some z∧zs=z.cells.toList:=by
 unfold zeroOf at h
 split at h
 ·rename_i i hi
  split at h
  ·rename_i z hz;exact⟨i,z,hi,hz,by simpa using h.symm⟩
  ·cases h
 ·cases h
theorem zeroE_cell (zs:List Value) (j:Nat) (hj:j<zs.length):(zeroE zs).cell j=constV (zs.getD j undef):=by
 unfold zeroE
 split
 ·rename_i z
  obtain rfl:j=0:=by simpa using hj
  simp only[List.getD_cons_zero]
  cases z<;>rfl
 ·show(zs.map constV).getD j .any=_
  simp[List.getD_eq_getElem?_getD,hj]
def placeAll (P:Program) (fs:Array Field) (n:Nat):List Nat→List V→(Nat→V)→Option (Nat→V)
 |[],[],C=>some C
 |i::is,v::vs,C=>match fs[i]? with
  |some f=>if v.csize=P.cellsOf f.type∧0<P.cellsOf f.type∧f.offset+v.csize≤n∧v.sto=true then
    placeAll P fs n is vs fun k=>if f.offset≤k∧k<f.offset+v.csize then v.cell (k-f.offset) else C k
   else none
  |none=>none
 |_,_,_=>none
theorem fill_ok (hs:Sat x s F a w) {fs:Array Field} {pl:Nat→Option (Nat×Nat)} (hpl: ∀i f,fs[i]?=some f→pl i=some (f.offset,P.cellsOf f.type)): ∀(is:List Nat) (vs:List V) (ys:List Value) (C D:Nat→V) (n:Nat) (cells:Array Value) (u:Nat→Value),
  placeAll P fs n is vs C=some D→ys.length=vs.length→(∀(i:Nat) (v:V) (y:Value),vs[i]?=some v→ys[i]?=some y→Rep w F v y)→cells.size=n→(∀k,k<n→cells[k]?=some (u k)∧(u k).oneCell'=true)→(∀k,k<n→Rep w F (C k) (u k))→
  ∃(r:Array Value) (u':Nat→Value),Instr.fill pl cells (is.zip ys)=some r∧r.size=n∧(∀k,k<n→r[k]?=some (u' k)∧(u' k).oneCell'=true)∧ ∀k,k<n→Rep w F (D k) (u' k):=by
 intro is
 induction is with
 |nil=>
  intro vs ys C D n cells u h hl _ hz hc hr
  cases vs with
  |nil=>
   simp only[placeAll,Option.some.injEq] at h
   subst h
   exact⟨cells,u,by cases ys<;>rfl,hz,hc,hr⟩
  |cons v vs=>simp[placeAll] at h
 |cons i is ih=>
  intro vs ys C D n cells u h hl hvs hz hc hr
  cases vs with
  |nil=>simp[placeAll] at h
  |cons v vs=>
   cases ys with
   |nil=>simp at hl
   |cons y ys=>
    simp only[placeAll] at h
    split at h
    ·rename_i f hf
     split at h
     ·rename_i hcond
      obtain⟨h1,h2,h3,h4⟩:=hcond
      obtain⟨uy,q1,q2,q3⟩:=cells_of hs h4 (hvs 0 v y rfl rfl)
      obtain⟨e1,e2⟩:=Great.foldl_set f.offset y.cells.toList 0 cells
      rw[Array.length_toList,q1] at e2
      have hfill:Instr.fill pl cells ((i::is).zip (y::ys))=Instr.fill pl (y.cells.zipIdx.foldl (fun cs (c,j)=>cs.setIfInBounds (f.offset+j) c) cells) (is.zip ys):=by
       simp only[List.zip_cons_cons,Instr.fill,hpl i f hf]
       rw[if_neg]
       rw[q1,h1,hz]
       simp only[ne_eq,not_true_eq_false,decide_false,Bool.false_or,decide_eq_true_eq]
       omega
      have hfold:y.cells.zipIdx.foldl (fun cs (c,j)=>cs.setIfInBounds (f.offset+j) c) cells=(y.cells.toList.zipIdx 0).foldl (fun cs (x:Value×Nat)=>cs.setIfInBounds (f.offset+x.2) x.1) cells:=by
       rw[←Array.foldl_toList,Array.toList_zipIdx]
      rw[hfill,hfold]
      refine ih vs ys _ D n _ (fun k=>if f.offset≤k∧k<f.offset+v.csize then uy (k-f.offset) else u k) h (by simpa using hl) (fun i v y hv hy=>hvs (i+1) v y (by simpa using hv) (by simpa using hy)) (by rw[e1,hz]) (fun k hk=> ?_) (fun k hk=> ?_)
      ·show _=some (if f.offset≤k∧k<f.offset+v.csize then uy (k-f.offset) else u k)∧(if f.offset≤k∧k<f.offset+v.csize then uy (k-f.offset) else u k).oneCell'=true
       rw[e2 k]
       by_cases hin:f.offset≤k∧k<f.offset+v.csize
       ·rw[if_pos ⟨by omega,by omega,by omega⟩,if_pos hin,Nat.add_zero,Array.getElem?_toList]
        exact q2 _ (by omega)
       ·rw[if_neg (by omega),if_neg hin];exact hc k hk
      ·show Rep _ _ (if _ then _ else _) (if _ then _ else _)
       by_cases hin:f.offset≤k∧k<f.offset+v.csize
       ·rw[if_pos hin,if_pos hin];exact q3 _ (by omega)
       ·rw[if_neg hin,if_neg hin];exact hr k hk
     ·exact absurd h (by simp)
    ·exact absurd h (by simp)
def arrF (e:TypeId) (sz n:Nat):List Field:=(List.range n).map fun i=>⟨"",e,i*sz,false, "", "",0⟩
def vbuild (P:Program) (gl:Gl) (s:S) (d:Option Nat) (t:TypeId) (ps:List (Nat×Operand)):Option (List Prop×S):=
 match P.underlying t with
 |some (.struct fs)=>match zeroOf P t,uls gl s.e (ps.map (·.2)) with
  |some zs,some (vs,l)=>if (fs.toList.all fun f=>decide (0<P.cellsOf f.type))=true∧(zs.all fun z=>z.oneCell')=true then match placeAll P fs zs.length (ps.map (·.1)) vs (fun k=>constV (zs.getD k undef)) with
   |some C=>some (l,{s with e:=s.e.put d (.st ((List.range zs.length).map C))})
   |none=>none
   else none
  |_,_=>none
 |some (.array n el)=>match zeroOf P t,uls gl s.e (ps.map (·.2)) with
  |some zs,some (vs,l)=>if 0<P.cellsOf el∧(zs.all fun z=>z.oneCell')=true then match placeAll P (arrF el (P.cellsOf el) n).toArray zs.length (ps.map (·.1)) vs (fun k=>constV (zs.getD k undef)) with
   |some C=>some (l,{s with e:=s.e.put d (.st ((List.range zs.length).map C))})
   |none=>none
   else none
  |_,_=>none
 |_=>none
theorem places_ok (l:List Field) (h: ∀f∈l,0<P.cellsOf f.type):l.mapM (fun f=>(P.info? f.type).map fun i=>(f.offset,i.size))=some (l.map fun f=>(f.offset,P.cellsOf f.type)):=by
 induction l with
 |nil=>rfl
 |cons f r ih=>
  have h1:=h f (List.mem_cons_self ..)
  rw[List.mapM_cons,ih fun g hg=>h g (List.mem_cons_of_mem _ hg)]
  unfold Program.cellsOf at h1⊢
  cases hi:P.info? f.type with
  |none=>simp[hi] at h1
  |some i=>simp[hi]
theorem info_of_pos {e:TypeId} (h:0<P.cellsOf e): ∃i,P.info? e=some i∧i.size=P.cellsOf e:=by
 unfold Program.cellsOf at h⊢
 cases hi:P.info? e with
 |none=>simp[hi] at h
 |some i=>exact⟨i,rfl,rfl⟩
theorem arrF_place {e:TypeId} {n i m:Nat} {f:Field} (hm:m=P.cellsOf e) (h:(arrF e (P.cellsOf e) n).toArray[i]?=some f):some (i*m,m)=some (f.offset,P.cellsOf f.type):=by
 subst hm
 simp only[arrF,List.getElem?_toArray,List.getElem?_map] at h
 rcases Nat.lt_or_ge i n with hi|hi
 ·rw[List.getElem?_range hi] at h
  simp only[Option.map_some,Option.some.injEq] at h
  subst h;rfl
 ·rw[List.getElem?_eq_none (by simp;omega)] at h
  cases h
theorem vbuild_ok (hs:Sat x s F a w) {d:Option Nat} {t:TypeId} {ps:List (Nat×Operand)} {l:List Prop} {s':S} (h:vbuild P x.J.gl s d t ps=some (l,s')) (hl:AllP l) (hd: ∀k,d=some k→k<x.n):
  ∃z G,(Instr.build t (ps.map fun p=>(p.1,a.eval p.2)).toArray).run P w= .ok z w∧Sat x s' G (a.put d z) w∧ ∀js,Stp js s.h s'.h F G w w:=by
 unfold vbuild at h
 split at h
 ·rename_i fs ht
  split at h
  ·rename_i zs vs l1 hzo hvl
   split at h
   rename_i hall
   obtain⟨hall,hone⟩:=hall
   split at h
   ·rename_i C hpl
    obtain⟨rfl,rfl⟩:=some_pair h
    obtain⟨hlen,hvs⟩:=uls_ok hs.env hs.inv hvl hl
    obtain⟨i,z,hi,hz,rfl⟩:=zeroOf_ok hzo
    have hp:=places_ok (P:=P) fs.toList (fun f hf=>by simpa using List.all_eq_true.1 hall f hf)
    obtain⟨r,u',f1,f2,f3,f4⟩:=fill_ok (P:=P) hs (fs:=fs) (pl:=fun i=>(fs.toList.map fun f=>(f.offset,P.cellsOf f.type)).toArray[i]?) (fun i f hf=>by simp[hf]) (ps.map (·.1)) vs ((ps.map (·.2)).map a.eval) _ C z.cells.toList.length z.cells (fun k=>z.cells.getD k undef) hpl (by rw[hlen];simp) hvs (by simp) (fun k hk=>by
     simp at hk
     refine⟨by simp[Array.getD,hk],?_⟩
     exact List.all_eq_true.1 hone (z.cells.getD k undef) (by simp[hk])) (fun k hk=>by
     have:z.cells.toList.getD k undef=z.cells.getD k undef:=by simp[List.getD_eq_getElem?_getD,Array.getD_eq_getD_getElem?]
     rw[this];exact constV_rep _)
    have hlr:((List.range z.cells.toList.length).map C).length=z.cells.toList.length:=by simp
    refine⟨.agg r,F,?_,hs.put hd (.st _ r u' (by rw[f2,hlr]) (fun j hj=>f3 j (by rw[hlr] at hj;exact hj)) (fun j hj=> ?_)),fun js=>⟨(Stp.refl js s.h F w).kp,(Cx.Le.refl w F).lo,Hbx.refl _⟩⟩
    ·have hzip:(ps.map fun p=>(p.1,a.eval p.2))=(ps.map (·.1)).zip ((ps.map (·.2)).map a.eval):=by
      clear hvl hpl f1 hvs hlen hl
      induction ps with
      |nil=>rfl
      |cons p r ih=>simp only[List.map_cons,List.zip_cons_cons,ih]
     refine run_build w t _ r ?_
     unfold Program.built
     simp only[hi,ht,hz,hp,hzip]
     exact f1
    ·rw[hlr] at hj
     have:((List.range z.cells.toList.length).map C).getD j .any=C j:=by rw[List.getD_eq_getElem?_getD,List.getElem?_map,List.getElem?_range hj];rfl
     rw[this];exact f4 j hj
   ·exact absurd h (by simp)
   ·exact absurd h (by simp)
  ·exact absurd h (by simp)
 ·rename_i n el ht
  split at h
  ·rename_i zs vs l1 hzo hvl
   split at h
   rename_i hall
   obtain⟨hpos,hone⟩:=hall
   split at h
   ·rename_i C hpl
    obtain⟨rfl,rfl⟩:=some_pair h
    obtain⟨hlen,hvs⟩:=uls_ok hs.env hs.inv hvl hl
    obtain⟨i,z,hi,hz,rfl⟩:=zeroOf_ok hzo
    obtain⟨ie,hie,hsz⟩:=info_of_pos hpos
    obtain⟨r,u',f1,f2,f3,f4⟩:=fill_ok (P:=P) hs (fs:=(arrF el (P.cellsOf el) n).toArray) (pl:=fun i=>some (i*ie.size,ie.size)) (fun i f hf=>arrF_place hsz hf) (ps.map (·.1)) vs ((ps.map (·.2)).map a.eval) _ C z.cells.toList.length z.cells (fun k=>z.cells.getD k undef) hpl (by rw[hlen];simp) hvs (by simp) (fun k hk=>by
     simp at hk
     refine⟨by simp[Array.getD,hk],?_⟩
     exact List.all_eq_true.1 hone (z.cells.getD k undef) (by simp[hk])) (fun k hk=>by
     have:z.cells.toList.getD k undef=z.cells.getD k undef:=by simp[List.getD_eq_getElem?_getD,Array.getD_eq_getD_getElem?]
     rw[this];exact constV_rep _)
    have hlr:((List.range z.cells.toList.length).map C).length=z.cells.toList.length:=by simp
    refine⟨.agg r,F,?_,hs.put hd (.st _ r u' (by rw[f2,hlr]) (fun j hj=>f3 j (by rw[hlr] at hj;exact hj)) (fun j hj=> ?_)),fun js=>⟨(Stp.refl js s.h F w).kp,(Cx.Le.refl w F).lo,Hbx.refl _⟩⟩
    ·have hzip:(ps.map fun p=>(p.1,a.eval p.2))=(ps.map (·.1)).zip ((ps.map (·.2)).map a.eval):=by
      clear hvl hpl f1 hvs hlen hl
      induction ps with
      |nil=>rfl
      |cons p r ih=>simp only[List.map_cons,List.zip_cons_cons,ih]
     refine run_build w t _ r ?_
     unfold Program.built
     simp only[hi,ht,hz,hie,hzip]
     exact f1
    ·rw[hlr] at hj
     have:((List.range z.cells.toList.length).map C).getD j .any=C j:=by rw[List.getD_eq_getElem?_getD,List.getElem?_map,List.getElem?_range hj];rfl
     rw[this];exact f4 j hj
   ·exact absurd h (by simp)
   ·exact absurd h (by simp)
  ·exact absurd h (by simp)
 ·exact absurd h (by simp)
theorem vmake_ok (hs:Sat x s F a w) {df:TypeId→V} {d:Option Nat} {t:TypeId} {p q:V} {y z:Value} {l:List Prop} {s':S} (h:vmake P df s d t p q=some (l,s')) (hl:AllP l) (hd: ∀k,d=some k→k<x.n) (hp:Rep w F p y) (hq:Rep w F q z):
  ∃r w' G,(Instr.makeSlice t y z).run P w= .ok r w'∧Sat x s' G (a.put d r) w'∧ ∀js,Stp js s.h s'.h F G w w':=by
 unfold vmake at h
 split at h
 ·rename_i el k n k' n' ht
  split at h
  ·rename_i sz bs zs hri hzo
   split at h
   rename_i hone
   split at h
   ·rename_i l1 c1 hzs0
    obtain⟨rfl,rfl⟩:=some_pair h
    obtain rfl:=rep_val hp
    obtain rfl:=rep_val hq
    have e1:n≤n':=hl (capC n n') (by simp)
    have h0:(0:Int)≤n:=hl _ (by simp)
    have hb:n'*bs≤281474976710656:=hl _ (by simp)
    have hn:n'≤281474976710656:=hl _ (by simp)
    obtain⟨m,rfl⟩:=Int.eq_ofNat_of_zero_le h0
    obtain⟨m',rfl⟩:=Int.eq_ofNat_of_zero_le (Int.le_trans h0 e1)
    obtain⟨i,z,hi,hz,hsz,hby,hzs,hszp⟩:=rowInfo_ok hri
    obtain⟨i',z',hi',hz',rfl⟩:=zeroOf_ok hzo
    rw[hi] at hi'
    obtain rfl:i=i':=by simpa using hi'
    rw[hz] at hz'
    obtain rfl:z=z':=by simpa using hz'
    have hmm:m≤m':=by omega
    have hrun:=run_make (P:=P) w t el i z ht hi hz k k' (m:Int) (m':Int) (by omega) e1 (by rw[hby,Int.mul_comm];exact hb) (by omega)
    simp only[Int.toNat_natCast] at hrun
    have hss:m*sz≤m'*sz:=Nat.mul_le_mul_right _ hmm
    have hown:(w.alloc (.cells (madeCells z.cells (m'*i.size)) el)).ownsRow 0 el sz (.slice (some ⟨w.heap.size,0,none⟩) m m') m (madeCells z.cells (m*sz)).toList:=by
     refine⟨by simp[size_madeCells], .inr ⟨w.heap.size,m',_,rfl,Nat.zero_le _,heap_alloc_new w _,hmm,by unfold maxLen;omega,?_,?_⟩⟩
     ·rw[size_madeCells,hsz]
     ·rw[hsz];exact made_take _ hss
    have hg:w.grownBy (w.alloc (.cells (madeCells z.cells (m'*i.size)) el)) none:=World.grownBy_alloc w _ none
    generalize (w.alloc (.cells (madeCells z.cells (m'*i.size)) el))=w' at hrun hown hg
    have hcell: ∀i j,i<m→j<sz→(madeCells z.cells (m*sz)).toList[i*sz+j]?=some (z.cells.getD j undef):=fun i j hi hj=>by
     have h1:i*sz+j<m*sz:=by
      have:(i+1)*sz≤m*sz:=Nat.mul_le_mul_right _ hi
      rw[Nat.add_mul] at this;omega
     have h2:(i*sz+j)%sz=j:=by rw[Nat.add_comm,Nat.add_mul_mod_self_right];exact Nat.mod_eq_of_lt hj
     have h3:j<z.cells.size:=by omega
     simp[madeCells,h1,hzs,h2]
     rw[getElem!_pos z.cells j h3,Array.getElem?_eq_getElem h3];rfl
    have hmem: ∀y∈(madeCells z.cells (m*sz)).toList,y.oneCell'=true:=fun y hy=>by
     obtain⟨k,hk,rfl⟩:=List.getElem_of_mem hy
     have hk':k<m*sz:=by simpa [madeCells] using hk
     have q1:k/sz<m:=Nat.div_lt_of_lt_mul (by rw[Nat.mul_comm];exact hk')
     have:=hcell (k/sz) (k%sz) q1 (Nat.mod_lt _ hszp)
     rw[show k/sz*sz+k%sz=k from by rw[Nat.mul_comm];exact Nat.div_add_mod k sz,List.getElem?_eq_getElem hk] at this
     rw[Option.some.inj this]
     have h3:k%sz<z.cells.size:=by have:=Nat.mod_lt k hszp;omega
     exact List.all_eq_true.1 hone _ (by simp[h3])
    have hzl:z.cells.toList.length=sz:=by simpa using hzs
    have key: ∀(c:V) (cc:Nat→V),c.elems=some (sz,m,cc)→(∀i,i<m→ ∀j,j<sz→(cc i).cell j=constV (z.cells.getD j undef))→
      ∃G,Sat x ⟨s.e.put d (.ro (.r s.nx)),(s.nx, .row el c)::HdelK s.h [],s.nx+1⟩ G (a.put d (.slice (some ⟨w.heap.size,0,none⟩) m m')) w'∧ ∀js,Stp js s.h ((s.nx, .row el c)::HdelK s.h []) F G w w':=by
     intro c cc he hcc
     have hr: ∀i,i<m→ ∀j,j<sz→Rep w F ((cc i).cell j) (z.cells.getD j undef):=fun i hi j hj=>by rw[hcc i hi j hj];exact constV_rep _
     exact row_new (ks:=[]) (τ:=fun _ _=>none) (B:=none) (u:=fun _ j=>z.cells.getD j undef) hs hd hown he hg rfl (fun g hg=>by cases hg) (.inr (.inl rfl)) (fun i hi j hj=>hcell i j hi hj) hmem (fun i hi j hj _=>hr i hi j hj) (fun i hi j hj ty t q e=>absurd e (cell_own_false (hr i hi j hj) he ty t q)) (fun i j i' j' m e=>by cases e)
    unfold zeroS at hzs0
    rw[Int.toNat_natCast] at hzs0
    split at hzs0
    ·split at hzs0
     ·rename_i z0 hzz
      obtain⟨rfl,rfl⟩:=some_pair hzs0
      have hz0:z0=0:=hl _ (by simp)
      subst hz0
      have hsz1:sz=1:=by rw[←hzl,hzz];rfl
      subst hsz1
      have hz1:z.cells.getD 0 undef= .int .u8 0:=by
       have:z.cells.toList.getD 0 undef= .int .u8 0:=by rw[hzz];rfl
       simpa [List.getD_eq_getElem?_getD,Array.getD_eq_getD_getElem?] using this
      obtain⟨G,g1,g2⟩:=key (.by (List.replicate m 0)) (fun i=> .val (.int .u8 (byteAt (List.replicate m 0) i))) (by simp[V.elems]) (fun i hi j hj=>by
       obtain rfl:j=0:=by omega
       rw[hz1]
       show V.val _=V.val _
       simp[byteAt,List.getD_eq_getElem?_getD,hi])
      exact⟨_,w',G,hrun,g1,g2⟩
     ·cases hzs0
    ·obtain⟨rfl,rfl⟩:=some_pair hzs0
     obtain⟨G,g1,g2⟩:=key (.sq sz (df el) (List.replicate m (zeroE z.cells.toList))) (fun i=>(List.replicate m (zeroE z.cells.toList)).getD i (df el)) (by simp[V.elems];omega) (fun i hi j hj=>by
      show((List.replicate m (zeroE z.cells.toList)).getD i (df el)).cell j=_
      simp only[List.getD_eq_getElem?_getD,List.getElem?_replicate,if_pos hi,Option.getD_some]
      rw[zeroE_cell _ _ (by omega)]
      simp[List.getD_eq_getElem?_getD,Array.getD_eq_getD_getElem?])
     exact⟨_,w',G,hrun,g1,g2⟩
   ·cases h
   ·cases h
  ·cases h
 ·cases h
end
end Go.Proofs.YtfengpdaocgcnaaGreatDoor
