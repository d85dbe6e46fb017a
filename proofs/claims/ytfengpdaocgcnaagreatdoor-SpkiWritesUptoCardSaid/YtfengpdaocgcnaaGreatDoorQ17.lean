/- Memory handed over in which a nil slice stands for an empty one. Numbers as lists of words of 32 bits, the lowest first. Plain Lean. Words as slices; small walks of the program's numbers. -/
import Derived.Test.YtfengpdaocgcnaaGreatDoorQ16
namespace Go.Proofs.YtfengpdaocgcnaaGreatDoor
open Go.RowKit
theorem FnH.adopt {P:Program} {J:Inv} {f:FuncId} {args:List V} {pre pre' post:List (Nat×Ob)} {nx nx' nx2:Nat} {res:V} (ad:List Ad) (h:FnH P J f args pre' nx' res post nx2) (ha:AdSub ad ⟨enOf 0 args,pre,nx⟩ ⟨enOf 0 args,pre',nx'⟩):FnH P J f args pre nx res post nx2:=by
 refine⟨h.1,fun w F vs hM hlen hvs=> ?_⟩
 have hs0:Sat ⟨J,w,fun b=>F.F b∧ ¬Blk F pre b,vs.length,Blk F pre,F⟩ ⟨enOf 0 args,pre,nx⟩ F {tmps:=vs.toArray,defers:=[]} w:=by
  refine⟨Ev.refl _ w,fun t v ht=> ?_,rfl,by simp,fun b hb=>hb.1,hM.flt,hM.nx,hM.own,fun k ob g hk hg=> .inr ⟨k,ob,hk,hg⟩,fun k ob g hk hg hF=>hF.2 ⟨k,ob,hk,hg⟩,hM.sep,hM.wsl,Cx.Le.refl w _,hM.inv⟩
  obtain⟨_,h1⟩:=enOf_get args 0 t v ht
  simp only[Nat.sub_zero] at h1
  have hlt:t<args.length:=(List.getElem?_eq_some_iff.1 h1).1
  have hlt':t<vs.length:=by omega
  refine⟨by simp;omega,?_⟩
  have hg:vs[t]?=some vs[t]:=List.getElem?_eq_getElem hlt'
  have:=hvs t v _ h1 hg
  simpa [Array.getD_eq_getD_getElem?,hlt'] using this
 obtain⟨G,hG⟩:=hs0.adsub ha
 have hB: ∀g,Blk G pre' g→Blk F pre g∨w.heap.size≤g:=fun g ⟨k,ob,h1,h2⟩=>(hG.own2 k ob g h1 h2).symm
 have hB2: ∀b,F.F b→ ¬Blk F pre b→ ¬Blk G pre' b:=fun b h1 h2 ⟨k,ob,h3,h4⟩=>hG.own3 k ob b h3 h4 ⟨h1,h2⟩
 refine(h.2 w G vs ⟨hG.flt,hG.nx,hG.own,hG.sep,hG.wsl,hG.inv⟩ hlen fun i v y h1 h2=> ?_).mono fun e w' ⟨v,G1,he,hev,hle,hkeep,hmem,hown,hrep⟩=> ?_
 ·have hlt:i<vs.length:=(List.getElem?_eq_some_iff.1 h2).1
  have h3:(enOf 0 args).get i=some v:=by
   have key: ∀(l:List V) (k j:Nat),(enOf k l).get (k+j)=l[j]?:=by
    intro l
    induction l with
    |nil=>intro k j;simp[enOf,En.get]
    |cons u r ih=>
     intro k j
     cases j with
     |zero=>simp[enOf,En.get]
     |succ j=>
      simp only[enOf,En.get]
      rw[if_neg (by omega),show k+(j+1)=k+1+j from by omega,ih];simp
   have:=key args 0 i
   simp only[Nat.zero_add] at this
   rw[this,h1]
  have:=(hG.env i v h3).2
  have e:vs[i]?=some vs[i]:=List.getElem?_eq_getElem hlt
  rw[e] at h2
  obtain rfl:vs[i]=y:=by simpa using h2
  simpa [Array.getD_eq_getD_getElem?,hlt] using this
 ·refine⟨v,G1,he,⟨hev.os,hev.tape,hev.output,hev.size,fun b hb hn=>hev.block b hb fun hx=>(hB b hx).elim hn fun h=>by omega⟩,hG.le.trans hle (Nat.le_refl _),fun b h1 h2=>hkeep b (hG.fold b ⟨h1,h2⟩) (hB2 b h1 h2),hmem,fun k ob g h1 h2=> ?_,hrep⟩
  rcases hown k ob g h1 h2 with h|h
  ·exact hB g h
  ·exact .inr h
theorem Fn.of_plain {P:Program} {J:Inv} {f:FuncId} {args:List V} {nx:Nat} {res:V} {post:List (Nat×Ob)} (h:FnH P J f args [] 0 res post nx) (hc:res.cl=true):Fn P J f false args res:=by
 refine⟨h.1,fun w F vs hI hF hlen hvs=> ?_⟩
 have hm:Mem J [] 0 (.bare F) w:=⟨hF,fun _ _=>⟨rfl,rfl⟩,fun m o hm=>by cases m<;>simp[Hget,Hroot,Hchild] at hm,fun m m' o o' g hm=>by cases m<;>simp[Hget,Hroot,Hchild] at hm,fun k y hk=>by simp[Cx.bare] at hk,hI⟩
 refine(h.2 w (.bare F) vs hm hlen hvs).mono fun e w' ⟨v,G,he,hev,hle,hkeep,hmem,hown,hrep⟩=> ?_
 have hnB: ∀b,¬Blk (Cx.bare F) [] b:=fun b ⟨m,ob,hm,_⟩=>by cases m<;>simp[Hget,Hroot,Hchild] at hm
 refine⟨v,he,⟨hev.os,hev.tape,hev.output,hev.size,fun b hb=>hev.block b hb (hnB b)⟩,(hrep.bare hc).of_bare fun b hb=> .inl ?_⟩
 rcases hb with hb|⟨hb,_⟩
 ·exact hkeep b hb (hnB b)
 ·cases hb
def vl:List Nat→Nat
 |[]=>0
 |x::r=>x+4294967296*vl r
def W32 (l:List Nat):Prop:= ∀x∈l,x<4294967296
def dg (n:Nat):List Nat:=if h:n=0 then [] else n%4294967296::dg (n/4294967296)
termination_by n
decreasing_by omega
def trim:List Nat→List Nat
 |[]=>[]
 |x::r=>if x=0∧trim r=[] then [] else x::trim r
theorem W32.tail {x:Nat} {r:List Nat} (h:W32 (x::r)):W32 r:=fun y hy=>h y (List.mem_cons_of_mem _ hy)
theorem W32.head {x:Nat} {r:List Nat} (h:W32 (x::r)):x<4294967296:=h x (List.mem_cons_self ..)
theorem W32.nil:W32 []:=fun _ h=>by cases h
theorem W32.app {a b:List Nat} (ha:W32 a) (hb:W32 b):W32 (a++b):=fun x hx=>(List.mem_append.1 hx).elim (ha x) (hb x)
theorem W32.one {x:Nat} (h:x<4294967296):W32 [x]:=fun y hy=>by obtain rfl:=List.mem_singleton.1 hy;exact h
theorem W32.take {a:List Nat} (h:W32 a) (k:Nat):W32 (a.take k):=fun x hx=>h x (List.mem_of_mem_take hx)
theorem W32.drop {a:List Nat} (h:W32 a) (k:Nat):W32 (a.drop k):=fun x hx=>h x (List.mem_of_mem_drop hx)
theorem W32.zeros (k:Nat):W32 (List.replicate k 0):=fun x hx=>by rw[List.eq_of_mem_replicate hx];omega
theorem W32.get {a:List Nat} (h:W32 a) (i:Nat):a.getD i 0<4294967296:=by
 rw[List.getD_eq_getElem?_getD]
 cases hg:a[i]? with
 |none=>decide
 |some x=>exact h x (List.mem_of_getElem? hg)
theorem W32.set {a:List Nat} (h:W32 a) {i x:Nat} (hx:x<4294967296):W32 (a.set i x):=fun y hy=>by
 rcases List.mem_or_eq_of_mem_set hy with h1|h1
 ·exact h y h1
 ·rw[h1];exact hx
theorem vl_app: ∀(a b:List Nat),vl (a++b)=vl a+4294967296^a.length*vl b
 |[],b=>by simp[vl]
 |x::r,b=>by
  rw[List.cons_append,vl,vl,vl_app r b,List.length_cons,Nat.pow_succ]
  grind
theorem vl_one (x:Nat):vl [x]=x:=by simp[vl]
theorem vl_snoc (a:List Nat) (x:Nat):vl (a++[x])=vl a+4294967296^a.length*x:=by rw[vl_app,vl_one]
theorem vl_zeros: ∀k,vl (List.replicate k 0)=0
 |0=>rfl
 |k+1=>by rw[List.replicate_succ,vl,vl_zeros k]
theorem vl_take_succ (l:List Nat) (i:Nat):vl (l.take (i+1))=vl (l.take i)+4294967296^i*l.getD i 0:=by
 rcases Nat.lt_or_ge i l.length with h|h
 ·rw[List.take_succ_eq_append_getElem h,vl_snoc,List.length_take,Nat.min_eq_left (by omega),List.getD_eq_getElem?_getD,List.getElem?_eq_getElem h,Option.getD_some]
 ·rw[List.take_of_length_le (by omega),List.take_of_length_le (by omega),List.getD_eq_getElem?_getD,List.getElem?_eq_none h,Option.getD_none,Nat.mul_zero,Nat.add_zero]
theorem vl_lt: ∀{l:List Nat},W32 l→vl l<4294967296^l.length
 |[],_=>by simp[vl]
 |x::r,h=>by
  have h1:=vl_lt h.tail
  have h2:=h.head
  rw[vl,List.length_cons,Nat.pow_succ]
  omega
theorem vl_dg (n:Nat):vl (dg n)=n:=by
 induction n using Nat.strongRecOn with
 |_ n ih=>
  rw[dg]
  split
  ·rename_i h;rw[h];rfl
  ·rename_i h
   rw[vl,ih _ (by omega)]
   omega
theorem dg_zero:dg 0=[]:=by rw[dg];simp
theorem W32_dg (n:Nat):W32 (dg n):=by
 induction n using Nat.strongRecOn with
 |_ n ih=>
  rw[dg]
  split
  ·exact W32.nil
  ·rename_i h
   intro x hx
   rcases List.mem_cons.1 hx with rfl|hx
   ·omega
   ·exact ih _ (by omega) x hx
theorem dg_eq_nil {n:Nat}:dg n=[]↔n=0:=by
 constructor
 ·intro h
  have:=vl_dg n
  rw[h] at this
  exact this.symm
 ·rintro rfl;exact dg_zero
theorem trim_dg: ∀{l:List Nat},W32 l→trim l=dg (vl l)
 |[],_=>by rw[vl,dg_zero];rfl
 |x::r,h=>by
  have h1:=trim_dg h.tail
  have h2:=h.head
  unfold trim
  rw[h1,vl]
  split
  ·rename_i hc
   have:=dg_eq_nil.1 hc.2
   rw[hc.1,this,dg_zero]
  ·rename_i hc
   have hn: ¬(x+4294967296*vl r=0):=fun h0=>hc ⟨by omega,dg_eq_nil.2 (by omega)⟩
   rw[dg.eq_def (x+4294967296*vl r),dif_neg hn]
   congr 1
   ·omega
   ·congr 1;omega
theorem vl_trim {l:List Nat} (h:W32 l):vl (trim l)=vl l:=by rw[trim_dg h,vl_dg]
theorem trim_app_zero: ∀(l:List Nat),trim (l++[0])=trim l
 |[]=>by simp[trim]
 |x::r=>by rw[List.cons_append];simp only[trim,trim_app_zero r]
theorem trim_last: ∀{l:List Nat} {x:Nat},x≠0→trim (l++[x])=l++[x]
 |[],x,h=>by simp[trim,h]
 |y::r,x,h=>by
  rw[List.cons_append]
  simp only[trim,trim_last (l:=r) h]
  rw[if_neg (fun hc=>by have:=hc.2;simp at this)]
theorem trim_take {l:List Nat} {k:Nat} (hk:k<l.length) (h0:l.getD k 0=0):trim (l.take (k+1))=trim (l.take k):=by
 rw[List.take_succ_eq_append_getElem hk]
 rw[List.getD_eq_getElem?_getD,List.getElem?_eq_getElem hk,Option.getD_some] at h0
 rw[h0,trim_app_zero]
theorem trim_take_last {l:List Nat} {k:Nat} (hk:k<l.length) (h0:l.getD k 0≠0):trim (l.take (k+1))=l.take (k+1):=by
 rw[List.take_succ_eq_append_getElem hk]
 rw[List.getD_eq_getElem?_getD,List.getElem?_eq_getElem hk,Option.getD_some] at h0
 exact trim_last h0
theorem dg_len {n k:Nat} (h:n<4294967296^k):(dg n).length≤k:=by
 induction k generalizing n with
 |zero=>
  have:n=0:=by simpa using h
  rw[this,dg_zero];simp
 |succ k ih=>
  rw[dg]
  split
  ·simp
  ·rw[List.length_cons]
   have:=ih (n:=n/4294967296) (by rw[Nat.pow_succ] at h;exact Nat.div_lt_of_lt_mul (by rw[Nat.mul_comm];exact h))
   omega
theorem trim_len: ∀l:List Nat,(trim l).length≤l.length
 |[]=>Nat.le_refl _
 |x::r=>by
  have:=trim_len r
  unfold trim
  split<;>simp<;>omega
theorem trim_idem (l:List Nat):trim (trim l)=trim l:=by
 induction l with
 |nil=>rfl
 |cons x r ih=>
  by_cases h:x=0∧trim r=[]
  ·simp only[trim,if_pos h]
  ·simp only[trim,if_neg h,ih]
theorem W32_trim {l:List Nat} (h:W32 l):W32 (trim l):=by rw[trim_dg h];exact W32_dg _
theorem dg_lo {n:Nat} (h:n≠0):4294967296^((dg n).length-1)≤n:=by
 induction n using Nat.strongRecOn with
 |_ n ih=>
  rw[dg.eq_def n,dif_neg h,List.length_cons]
  by_cases h0:n/4294967296=0
  ·rw[h0,dg_zero];simp;omega
  ·have h1:=ih (n/4294967296) (by omega) h0
   have h2:(dg (n/4294967296)).length≠0:=fun hl=>h0 (dg_eq_nil.1 (List.length_eq_zero_iff.1 hl))
   obtain⟨m,hm⟩: ∃m,(dg (n/4294967296)).length=m+1:=⟨_,(Nat.succ_pred h2).symm⟩
   rw[hm] at h1⊢
   simp only[Nat.add_sub_cancel] at h1⊢
   rw[Nat.pow_succ]
   have:=Nat.mul_le_of_le_div _ _ _ h1
   omega
theorem dg_hi (n:Nat):n<4294967296^(dg n).length:=by
 have:=vl_lt (W32_dg n)
 rwa [vl_dg] at this
theorem carry_step (P s:Nat):P*(s%4294967296)+P*4294967296*(s/4294967296)=P*s:=by
 have h:=Nat.mod_add_div s 4294967296
 rw[Nat.mul_assoc,←Nat.mul_add,h]
theorem pow_pos' (k:Nat):0<4294967296^k:=Nat.pow_pos (by omega)
theorem getD_take {l:List Nat} {n i:Nat} (h:i<n):(l.take n).getD i 0=l.getD i 0:=by
 simp[List.getD_eq_getElem?_getD,h]
theorem getD_lt {l:List Nat} {i:Nat} (h:i<l.length):l.getD i 0=l[i]:=by
 rw[List.getD_eq_getElem?_getD,List.getElem?_eq_getElem h,Option.getD_some]
theorem getD_ge {l:List Nat} {i:Nat} (h:l.length≤i):l.getD i 0=0:=by
 rw[List.getD_eq_getElem?_getD,List.getElem?_eq_none h,Option.getD_none]
theorem set_zeros (o:List Nat) (k x:Nat):(o++List.replicate (k+1) 0).set o.length x=o++[x]++List.replicate k 0:=by
 rw[List.set_append_right _ _ (Nat.le_refl _),Nat.sub_self,List.replicate_succ,List.set_cons_zero,List.append_assoc]
 rfl
open Nat (reduceMul reduceLeDiff reduceEqDiff reduceLT reduceAdd reduceSub reduceDiv)
open Int (reduceToNat reducePow)
set_option linter.unusedSimpArgs false
set_option maxRecDepth 100000
@[reducible] def conjL:List Prop→Prop
 |[]=>True
 |a::r=>a∧conjL r
theorem AllP.un: ∀{l:List Prop},AllP l→conjL l
 |[],_=>trivial
 |_::_,h=>⟨h _ (List.mem_cons_self ..),AllP.un fun p hp=>h p (List.mem_cons_of_mem _ hp)⟩
theorem Br_t (A B:Prop):Br true A B=A:=propext ⟨fun h=>h.1 rfl,fun h=>⟨fun _=>h,fun h=>by cases h⟩⟩
theorem Br_f (A B:Prop):Br false A B=B:=propext ⟨fun h=>h.2 rfl,fun h=>⟨fun h=>by (cases h),fun _=>h⟩⟩
def zs (l:List Nat):List Int:=l.map fun(n:Nat)=>(n:Int)
def wds (l:List Nat):List V:=nums .u32 (zs l)
def w32 (z:Int):Nat:=(z%4294967296).toNat
theorem w32_nat (n:Nat):w32 n=n%4294967296:=by unfold w32;omega
theorem w32_lt (z:Int):w32 z<4294967296:=by unfold w32;omega
theorem wr_w32 (z:Int):wr .u32 z=(w32 z:Int):=by rw[wr_eq];show z%4294967296=_;unfold w32;omega
theorem bt_w32 (o:BinOp) (a b:Int) (h:o= .and∨o= .or∨o= .xor):bt o .u32 a b=(w32 (bt o .u32 a b):Int):=by
 have e:bt o .u32 a b=w32 (bits o .u32 a b)∨True:= .inr trivial
 have: ∀z:Int,IntKind.u32.wrap z=(w32 (IntKind.u32.wrap z):Int):=fun z=>by show z%4294967296=_;unfold w32;show _=(((z%4294967296)%4294967296).toNat:Int);omega
 rw[bt_eq]
 rcases h with rfl|rfl|rfl<;>exact this _
def wV (l:List Nat):V:= .sq 1 (.val (.int .u32 0)) (wds l)
section
variable (l m:List Nat) (i k n:Nat)
theorem wds_len:(wds l).length=l.length:=by simp[wds,nums,zs]
theorem wds_get:(wds l).getD i (.val (.int .u32 0))= .val (.int .u32 ((l.getD i 0:Nat):Int)):=by
 simp only[wds,nums,zs,List.getD_eq_getElem?_getD,List.getElem?_map];cases l[i]?<;>rfl
theorem wds_app:wds l++[.val (.int .u32 (n:Int))]=wds (l++[n]):=by simp[wds,nums,zs]
theorem wds_apps:wds l++wds m=wds (l++m):=by simp[wds,nums,zs]
theorem wds_set:(wds l).set i (.val (.int .u32 (n:Int)))=wds (l.set i n):=by simp[wds,nums,zs,List.map_set]
theorem wds_rep:List.replicate i (V.val (.int .u32 0))=wds (List.replicate i 0):=by simp[wds,nums,zs]
theorem wds_setw (z:Int):(wds l).set i (.val (.int .u32 (wr .u32 z)))=wds (l.set i (w32 z)):=by rw[wr_w32,wds_set]
theorem wds_appw (z:Int):wds l++[.val (.int .u32 (wr .u32 z))]=wds (l++[w32 z]):=by rw[wr_w32,wds_app]
theorem wds_setb (a b:Int):(wds l).set i (.val (.int .u32 (bt .or .u32 a b)))=wds (l.set i (w32 (bt .or .u32 a b))):=by rw[bt_w32 _ _ _ (.inr (.inl rfl)),wds_set];rw[←bt_w32 _ _ _ (.inr (.inl rfl))]
theorem wds_many (a:Nat) (m:List Nat) (l:List Nat):setMany (wds l) a (wds m)=wds (setMany l a m):=by
 induction m generalizing l a with
 |nil=>rfl
 |cons x r ih=>
  show setMany ((wds l).set a (.val (.int .u32 (x:Int)))) (a+1) (wds r)=wds (setMany (l.set a x) (a+1) r)
  rw[wds_set,ih]
theorem wds_nrep:nums .u32 (List.replicate i 0)=wds (List.replicate i 0):=by simp[wds,nums,zs]
theorem wds_take:(wds l).take i=wds (l.take i):=by simp[wds,nums,zs,List.map_take]
theorem wds_drop:(wds l).drop i=wds (l.drop i):=by simp[wds,nums,zs,List.map_drop]
theorem wds_er:(wds l).map er2=wds l:=by simp[wds,nums,er2,er1]
theorem wds_cl:clL (wds l)=true:=by simp[clL_all,wds,nums,V.cl]
theorem wds_sc:scL (wds l)=true:=by simp[scL_all,wds,nums,V.sc]
theorem wds_ct:(wds l).all ct2=true:=by simp[wds,nums,ct2,ct1,V.cl]
theorem wds_no:(wds l).all V.noOwn=true:=by simp[wds,nums,V.noOwn,V.isOwn]
theorem wds_nil:wds []=[]:=rfl
theorem wV_cl:(wV l).cl=true:=wds_cl l
end
theorem spB:type_of%(aI (aI (aI (aI @wds_len @wds_get) (aI @wds_app @wds_apps)) (aI (aI @wds_appw @wds_set) (aI @wds_setw (aI @wds_setb @wds_rep)))) (aI (aI (aI @wds_nrep @wds_many) (aI @wds_take @wds_drop)) (aI (aI @wds_er @wds_cl) (aI @wds_sc (aI @wds_ct @wds_no))))):=(aI (aI (aI (aI @wds_len @wds_get) (aI @wds_app @wds_apps)) (aI (aI @wds_appw @wds_set) (aI @wds_setw (aI @wds_setb @wds_rep)))) (aI (aI (aI @wds_nrep @wds_many) (aI @wds_take @wds_drop)) (aI (aI @wds_er @wds_cl) (aI @wds_sc (aI @wds_ct @wds_no)))))
def unW1:V→Nat
 | .val (.int _ n)=>n.toNat
 |_=>0
def unW (L:List V):List Nat:=L.map unW1
theorem unW_wds (l:List Nat):unW (wds l)=l:=by
 unfold unW wds nums zs
 rw[List.map_map,List.map_map]
 exact List.map_id'' (fun n=>rfl) l
abbrev CR:=Option (List Prop×Bool×V)
def cpre (ps:List Prop):CR→CR
 |some (l,fr,r)=>some (ps++l,fr,r)
 |none=>none
def cF (c:List Prop) (fr:Bool) (r:V):List V→CR
 |[]=>some (c,fr,r)
 |_=>none
def cW (k:List Nat→List V→CR):List V→CR
 | .sq 1 d L::r=>cpre [d= .val (.int .u32 0),L=wds (unW L)] (k (unW L) r)
 |_=>none
def cY (k:List UInt8→List V→CR):List V→CR
 | .by b::r=>k b r
 |_=>none
def cS (k:List UInt8→List V→CR):List V→CR
 | .str b::r=>k b r
 |_=>none
def cB (k:Bool→List V→CR):List V→CR
 | .bb b::r=>k b r
 |_=>none
def cI (q:IntKind) (k:Int→List V→CR):List V→CR
 | .val (.int q' n)::r=>cpre [q'=q] (k n r)
 |_=>none
def pN (n:Nat):V:= .pe (.sq 2 .any [.st [.bb false,wV (dg n)]]) 0 0
def bI (b:Bool) (n:Nat):V:= .st [.bb b,wV (dg n)]
def cP (k:Nat→List V→CR):List V→CR
 | .pe (.sq 2 .any [.st [.bb false, .sq 1 d L]]) 0 0::r=>cpre [d= .val (.int .u32 0),L=wds (dg (vl (unW L)))] (k (vl (unW L)) r)
 |_=>none
def noF:FuncId→List V→CR:=fun _ _=>none
def tab:List (FuncId×(List V→CR))→(FuncId→List V→CR)→FuncId→List V→CR
 |[],p,f,args=>p f args
 |(g,k)::t,p,f,args=>if f=g then k args else tab t p f args
section
variable {P:Program} {J:Inv} {f:FuncId}
def EntAt (P:Program) (J:Inv) (f:FuncId) (mk:List V→List V) (k:List V→CR):Prop:= ∀args l fr r,k args=some (l,fr,r)→AllP l→Fn P J f fr (mk args) r
theorem cpre_some {ps l:List Prop} {x:CR} {fr:Bool} {r:V} (h:cpre ps x=some (l,fr,r)): ∃l',x=some (l',fr,r)∧l=ps++l':=by
 unfold cpre at h
 split at h
 ·simp only[Option.some.injEq,Prod.mk.injEq] at h
  obtain⟨rfl,rfl,rfl⟩:=h
  exact⟨_,rfl,rfl⟩
 ·cases h
theorem AllP.r {a b:List Prop} (h:AllP (a++b)):AllP b:=fun p hp=>h p (List.mem_append_right _ hp)
theorem EntAt.z {mk:List V→List V} {c:List Prop} {fr:Bool} {r:V} (h:conjL c→Fn P J f fr (mk []) r):EntAt P J f mk (cF c fr r):=fun args l fr' r' hk hl=>by
 unfold cF at hk
 split at hk
 ·simp only[Option.some.injEq,Prod.mk.injEq] at hk
  obtain⟨rfl,rfl,rfl⟩:=hk
  exact h hl.un
 ·cases hk
theorem EntAt.w {mk:List V→List V} {k:List Nat→List V→CR} (h: ∀a,EntAt P J f (fun r=>mk (wV a::r)) (k a)):EntAt P J f mk (cW k):=fun args l fr r hk hl=>by
 unfold cW at hk
 split at hk
 ·rename_i d L rest
  obtain⟨l',h2,rfl⟩:=cpre_some hk
  obtain⟨q1,q2, -⟩:=hl.un
  have:=h _ rest l' fr r h2 hl.r
  rw[q1]
  unfold wV at this
  rw[←q2] at this
  exact this
 ·cases hk
theorem EntAt.p {mk:List V→List V} {k:Nat→List V→CR} (h: ∀a,EntAt P J f (fun r=>mk (pN a::r)) (k a)):EntAt P J f mk (cP k):=fun args l fr r hk hl=>by
 unfold cP at hk
 split at hk
 ·rename_i d L rest
  obtain⟨l',h2,rfl⟩:=cpre_some hk
  obtain⟨q1,q2, -⟩:=hl.un
  have:=h _ rest l' fr r h2 hl.r
  rw[q1]
  unfold pN wV at this
  rw[←q2] at this
  exact this
 ·cases hk
theorem EntAt.y {mk:List V→List V} {k:List UInt8→List V→CR} (h: ∀a,EntAt P J f (fun r=>mk (.by a::r)) (k a)):EntAt P J f mk (cY k):=fun args l fr r hk hl=>by
 unfold cY at hk
 split at hk
 ·exact h _ _ l fr r hk hl
 ·cases hk
theorem EntAt.s {mk:List V→List V} {k:List UInt8→List V→CR} (h: ∀a,EntAt P J f (fun r=>mk (.str a::r)) (k a)):EntAt P J f mk (cS k):=fun args l fr r hk hl=>by
 unfold cS at hk
 split at hk
 ·exact h _ _ l fr r hk hl
 ·cases hk
theorem EntAt.b {mk:List V→List V} {k:Bool→List V→CR} (h: ∀a,EntAt P J f (fun r=>mk (.bb a::r)) (k a)):EntAt P J f mk (cB k):=fun args l fr r hk hl=>by
 unfold cB at hk
 split at hk
 ·exact h _ _ l fr r hk hl
 ·cases hk
theorem EntAt.i {mk:List V→List V} {q:IntKind} {k:Int→List V→CR} (h: ∀a,EntAt P J f (fun r=>mk (.val (.int q a)::r)) (k a)):EntAt P J f mk (cI q k):=fun args l fr r hk hl=>by
 unfold cI at hk
 split at hk
 ·obtain⟨l',h2,rfl⟩:=cpre_some hk
  obtain⟨q1, -⟩:=hl.un
  subst q1
  exact h _ _ l' fr r h2 hl.r
 ·cases hk
def TabOk (P:Program) (J:Inv) (t:List (FuncId×(List V→CR))):Prop:= ∀e∈t,EntAt P J e.1 (fun r=>r) e.2
theorem TabOk.n:TabOk P J []:=fun _ h=>by cases h
theorem TabOk.c {k:List V→CR} {t:List (FuncId×(List V→CR))} (h:EntAt P J f (fun r=>r) k) (ht:TabOk P J t):TabOk P J ((f,k)::t):=fun e he=>by
 rcases List.mem_cons.1 he with rfl|he
 ·exact h
 ·exact ht e he
theorem noF_ok: ∀f args l fr r,noF f args=some (l,fr,r)→AllP l→Fn P J f fr args r:=fun _ _ _ _ _ h=>by cases h
theorem tab_ok {p:FuncId→List V→CR}: ∀{t:List (FuncId×(List V→CR))},TabOk P J t→(∀f args l fr r,p f args=some (l,fr,r)→AllP l→Fn P J f fr args r)→ ∀f args l fr r,tab t p f args=some (l,fr,r)→AllP l→Fn P J f fr args r
 |[],_,hp,f,args,l,fr,r,h,hl=>hp f args l fr r h hl
 |(g,k)::t,ht,hp,f,args,l,fr,r,h,hl=>by
  unfold tab at h
  split at h
  ·rename_i hf
   subst hf
   exact ht _ (List.mem_cons_self ..) args l fr r h hl
  ·exact tab_ok (fun e he=>ht e (List.mem_cons_of_mem _ he)) hp f args l fr r h hl
end
abbrev HR:=Option CallH
def hpre (ps:List Prop):HR→HR
 |some ⟨l,bw,p,r,q,n⟩=>some ⟨ps++l,bw,p,r,q,n⟩
 |none=>none
def hF (c:List Prop) (pre:List (Nat×Ob)) (res:V) (post:List (Nat×Ob)) (n:Nat):HR:=some ⟨c,[],pre,res,post,n⟩
def hD (c:HR):List V→HR
 |[]=>c
 |_=>none
def hA (h:List (Nat×Ob)) (j:Nat) (k:V→V→HR):HR:=match Hroot h j with
 |some (.box ty (.st [b,v]))=>hpre [ty=142] (k b v)
 |_=>none
def hX (h:List (Nat×Ob)) (j:Nat) (k:Bool→Nat→HR):HR:=match Hroot h j with
 |some (.box ty (.st [.bb s, .sq 1 d L]))=>hpre [ty=142,d= .val (.int .u32 0),L=wds (dg (vl (unW L)))] (k s (vl (unW L)))
 |_=>none
def hO (k:Nat→List V→HR):List V→HR
 | .op j 0::r=>k j r
 |_=>none
def hE (j:Nat) (k:List V→HR):List V→HR
 | .op i 0::r=>hpre [j=i] (k r)
 |_=>none
def hP (k:Nat→List V→HR):List V→HR
 | .pe (.sq 2 .any [.st [.bb false, .sq 1 d L]]) 0 0::r=>hpre [d= .val (.int .u32 0),L=wds (dg (vl (unW L)))] (k (vl (unW L)) r)
 |_=>none
def hY (k:List UInt8→List V→HR):List V→HR
 | .by b::r=>k b r
 |_=>none
def hS (k:List UInt8→List V→HR):List V→HR
 | .str b::r=>k b r
 |_=>none
def hB (k:Bool→List V→HR):List V→HR
 | .bb b::r=>k b r
 |_=>none
def hI (q:IntKind) (k:Int→List V→HR):List V→HR
 | .val (.int q' n)::r=>hpre [q'=q] (k n r)
 |_=>none
def hV (k:V→List V→HR):List V→HR
 |v::r=>k v r
 |_=>none
def tabH:List (FuncId×(List (Nat×Ob)→Nat→List V→HR))→(FuncId→List V→List (Nat×Ob)→Nat→HR)→FuncId→List V→List (Nat×Ob)→Nat→HR
 |[],p,f,args,h,nx=>p f args h nx
 |(g,k)::t,p,f,args,h,nx=>if f=g then k h nx args else tabH t p f args h nx
section
variable {P:Program} {J:Inv} {f:FuncId} {h:List (Nat×Ob)} {nx:Nat}
def EntC (P:Program) (J:Inv) (f:FuncId) (nx:Nat) (vs:List V) (c:HR):Prop:= ∀d,c=some d→AllP d.l→d.bw=[]∧FnH P J f vs d.pre nx d.res d.post d.nx
def EntH (P:Program) (J:Inv) (f:FuncId) (nx:Nat) (mk:List V→List V) (k:List V→HR):Prop:= ∀args,EntC P J f nx (mk args) (k args)
theorem EntC.un {vs:List V} {ps:List Prop} {x:HR} (hx:conjL ps→EntC P J f nx vs x):EntC P J f nx vs (hpre ps x):=fun d hd hl=>by
 unfold hpre at hd
 split at hd
 ·rename_i l bw p r q n
  obtain rfl:=Option.some.inj hd
  have hps:AllP ps:=fun z hz=>hl z (List.mem_append_left _ hz)
  have h2:AllP l:=fun z hz=>hl z (List.mem_append_right _ hz)
  exact hx hps.un ⟨l,bw,p,r,q,n⟩ rfl h2
 ·cases hd
theorem EntC.no {vs:List V}:EntC P J f nx vs none:=fun _ hd=>by cases hd
theorem EntC.F {vs:List V} {c:List Prop} {pre post:List (Nat×Ob)} {res:V} {n:Nat} (hc:conjL c→FnH P J f vs pre nx res post n):EntC P J f nx vs (hF c pre res post n):=fun d hd hl=>by
 obtain rfl:=Option.some.inj hd
 exact⟨rfl,hc hl.un⟩
theorem EntC.A {vs:List V} {j:Nat} {k:V→V→HR} (hk: ∀b v,EntC P J f nx vs (k b v)):EntC P J f nx vs (hA h j k):=by
 unfold hA
 split
 ·exact .un fun _=>hk _ _
 ·exact .no
theorem EntC.X {vs:List V} {j:Nat} {k:Bool→Nat→HR} (hk: ∀b v,EntC P J f nx vs (k b v)):EntC P J f nx vs (hX h j k):=by
 unfold hX
 split
 ·exact .un fun _=>hk _ _
 ·exact .no
theorem EntH.d {mk:List V→List V} {c:HR} (hc:EntC P J f nx (mk []) c):EntH P J f nx mk (hD c):=fun args=>by
 unfold hD
 split
 ·exact hc
 ·exact .no
theorem EntH.o {mk:List V→List V} {k:Nat→List V→HR} (hk: ∀j,EntH P J f nx (fun r=>mk (.op j 0::r)) (k j)):EntH P J f nx mk (hO k):=fun args=>by
 unfold hO
 split
 ·exact hk _ _
 ·exact .no
theorem EntH.e {mk:List V→List V} {j:Nat} {k:List V→HR} (hk:EntH P J f nx (fun r=>mk (.op j 0::r)) k):EntH P J f nx mk (hE j k):=fun args=>by
 unfold hE
 split
 ·exact .un fun q=>by
   obtain⟨rfl, -⟩:=q
   exact hk _
 ·exact .no
theorem EntH.p {mk:List V→List V} {k:Nat→List V→HR} (hk: ∀a,EntH P J f nx (fun r=>mk (pN a::r)) (k a)):EntH P J f nx mk (hP k):=fun args=>by
 unfold hP
 split
 ·rename_i d L rest
  exact .un fun q=>by
   obtain⟨q1,q2, -⟩:=q
   have:=hk (vl (unW L)) rest
   rw[q1]
   unfold pN wV at this
   rw[←q2] at this
   exact this
 ·exact .no
theorem EntH.y {mk:List V→List V} {k:List UInt8→List V→HR} (hk: ∀a,EntH P J f nx (fun r=>mk (.by a::r)) (k a)):EntH P J f nx mk (hY k):=fun args=>by
 unfold hY
 split
 ·exact hk _ _
 ·exact .no
theorem EntH.s {mk:List V→List V} {k:List UInt8→List V→HR} (hk: ∀a,EntH P J f nx (fun r=>mk (.str a::r)) (k a)):EntH P J f nx mk (hS k):=fun args=>by
 unfold hS
 split
 ·exact hk _ _
 ·exact .no
theorem EntH.b {mk:List V→List V} {k:Bool→List V→HR} (hk: ∀a,EntH P J f nx (fun r=>mk (.bb a::r)) (k a)):EntH P J f nx mk (hB k):=fun args=>by
 unfold hB
 split
 ·exact hk _ _
 ·exact .no
theorem EntH.i {mk:List V→List V} {q:IntKind} {k:Int→List V→HR} (hk: ∀a,EntH P J f nx (fun r=>mk (.val (.int q a)::r)) (k a)):EntH P J f nx mk (hI q k):=fun args=>by
 unfold hI
 split
 ·exact .un fun z=>by
   obtain⟨rfl, -⟩:=z
   exact hk _ _
 ·exact .no
theorem EntH.v {mk:List V→List V} {k:V→List V→HR} (hk: ∀a,EntH P J f nx (fun r=>mk (a::r)) (k a)):EntH P J f nx mk (hV k):=fun args=>by
 unfold hV
 split
 ·exact hk _ _
 ·exact .no
def HTab (P:Program) (J:Inv) (g:FuncId→List V→List (Nat×Ob)→Nat→HR):Prop:= ∀f args h nx c,g f args h nx=some c→AllP c.l→FnH P J f (mixA h c.bw args).1 c.pre nx c.res c.post c.nx
def TabH (P:Program) (J:Inv) (t:List (FuncId×(List (Nat×Ob)→Nat→List V→HR))):Prop:= ∀e∈t,∀h nx,EntH P J e.1 nx (fun r=>r) (e.2 h nx)
theorem TabH.n:TabH P J []:=fun _ h=>by cases h
theorem TabH.c {k:List (Nat×Ob)→Nat→List V→HR} {t:List (FuncId×(List (Nat×Ob)→Nat→List V→HR))} (hk: ∀h nx,EntH P J f nx (fun r=>r) (k h nx)) (ht:TabH P J t):TabH P J ((f,k)::t):=fun e he=>by
 rcases List.mem_cons.1 he with rfl|he
 ·exact hk
 ·exact ht e he
theorem noH_ok:HTab P J noH:=fun _ _ _ _ _ h=>by cases h
theorem tabH_ok {p:FuncId→List V→List (Nat×Ob)→Nat→HR}: ∀{t:List (FuncId×(List (Nat×Ob)→Nat→List V→HR))},TabH P J t→HTab P J p→HTab P J (tabH t p)
 |[],_,hp=>fun f args h nx c hc hl=>hp f args h nx c hc hl
 |(g,k)::t,ht,hp=>fun f args h nx c hc hl=>by
  unfold tabH at hc
  split at hc
  ·rename_i hf
   subst hf
   obtain⟨h1,h2⟩:=ht _ (List.mem_cons_self ..) h nx args c hc hl
   rw[h1,show mixA h [] args=(args,[]) by cases args<;>rfl]
   exact h2
  ·exact tabH_ok (fun e he=>ht e (List.mem_cons_of_mem _ he)) hp f args h nx c hc hl
end
theorem bE:type_of%(aI (aI (aI (aI @cW.eq_1 @cY.eq_1) (aI @cS.eq_1 @cB.eq_1)) (aI (aI @cI.eq_1 @cP.eq_1) (aI @hO.eq_1 (aI @hE.eq_1 @hP.eq_1)))) (aI (aI (aI @hY.eq_1 @hS.eq_1) (aI @hB.eq_1 (aI @hI.eq_1 @hV.eq_1))) (aI (aI @tab.eq_1 @tab.eq_2) (aI @tabH.eq_1 (aI @tabH.eq_2 @shr_eq))))):=(aI (aI (aI (aI @cW.eq_1 @cY.eq_1) (aI @cS.eq_1 @cB.eq_1)) (aI (aI @cI.eq_1 @cP.eq_1) (aI @hO.eq_1 (aI @hE.eq_1 @hP.eq_1)))) (aI (aI (aI @hY.eq_1 @hS.eq_1) (aI @hB.eq_1 (aI @hI.eq_1 @hV.eq_1))) (aI (aI @tab.eq_1 @tab.eq_2) (aI @tabH.eq_1 (aI @tabH.eq_2 @shr_eq)))))
theorem bD:type_of%(aI (aI bE @Br_t) (aI @Br_f (aI @Brg_t @Brg_f))):=(aI (aI bE @Br_t) (aI @Br_f (aI @Brg_t @Brg_f)))
theorem bR:type_of%(aI (aI (aI (aI (aI bnA spB) (aI @noF.eq_1 (aI @cpre.eq_1 @cpre.eq_2))) (aI (aI @cF.eq_1 (aI @cF.eq_2 @cW.eq_1)) (aI @cW.eq_2 (aI @cY.eq_1 @cY.eq_2)))) (aI (aI (aI @cS.eq_1 (aI @cS.eq_2 @cB.eq_1)) (aI @cB.eq_2 (aI @cI.eq_1 @cI.eq_2))) (aI (aI @cP.eq_1 (aI @cP.eq_2 @hpre.eq_1)) (aI @hpre.eq_2 (aI @hD.eq_1 @hD.eq_2))))) (aI (aI (aI (aI @hO.eq_1 @hO.eq_2) (aI @hE.eq_1 (aI @hE.eq_2 @hP.eq_1))) (aI (aI @hP.eq_2 (aI @hY.eq_1 @hY.eq_2)) (aI @hS.eq_1 (aI @hS.eq_2 @hB.eq_1)))) (aI (aI (aI @hB.eq_2 (aI @hI.eq_1 @hI.eq_2)) (aI @hV.eq_1 (aI @hV.eq_2 @hF.eq_1))) (aI (aI @hA.eq_1 (aI @hX.eq_1 @tab.eq_1)) (aI @tab.eq_2 (aI @tabH.eq_1 @tabH.eq_2)))))):=(aI (aI (aI (aI (aI bnA spB) (aI @noF.eq_1 (aI @cpre.eq_1 @cpre.eq_2))) (aI (aI @cF.eq_1 (aI @cF.eq_2 @cW.eq_1)) (aI @cW.eq_2 (aI @cY.eq_1 @cY.eq_2)))) (aI (aI (aI @cS.eq_1 (aI @cS.eq_2 @cB.eq_1)) (aI @cB.eq_2 (aI @cI.eq_1 @cI.eq_2))) (aI (aI @cP.eq_1 (aI @cP.eq_2 @hpre.eq_1)) (aI @hpre.eq_2 (aI @hD.eq_1 @hD.eq_2))))) (aI (aI (aI (aI @hO.eq_1 @hO.eq_2) (aI @hE.eq_1 (aI @hE.eq_2 @hP.eq_1))) (aI (aI @hP.eq_2 (aI @hY.eq_1 @hY.eq_2)) (aI @hS.eq_1 (aI @hS.eq_2 @hB.eq_1)))) (aI (aI (aI @hB.eq_2 (aI @hI.eq_1 @hI.eq_2)) (aI @hV.eq_1 (aI @hV.eq_2 @hF.eq_1))) (aI (aI @hA.eq_1 (aI @hX.eq_1 @tab.eq_1)) (aI @tab.eq_2 (aI @tabH.eq_1 @tabH.eq_2))))))
theorem jsome_tri {α β γ:Type} {a d:α} {b e:β} {c f:γ} (h:some (a,b,c)=some (d,e,f)):a=d∧b=e∧c=f:=by simpa using h
def sdf (t:TypeId):V:=if t=156 then .val (.int .u32 0) else if t=3 then .val (.int .i64 0) else if t=101 then .sq 1 (.val (.int .u32 0)) [] else if t=24 then .by [] else .any
theorem bQ:type_of%(aI (aI bR (aI @vl_dg @W32_dg)) (aI (aI @unW_wds @wV.eq_1) (aI @sdf.eq_1 @wds_nil))):=(aI (aI bR (aI @vl_dg @W32_dg)) (aI (aI @unW_wds @wV.eq_1) (aI @sdf.eq_1 @wds_nil)))
def S0f:FuncId→List V→Option (List Prop×Bool×V):=fun _ _=>none
def S0 (J:Inv):Sig:=⟨J,sdf,S0f,noH,0⟩
theorem S0_ok (J:Inv):SigOk Tryz.prog (S0 J):= .plain fun _ _ _ _ _ h=>by simp[S0f] at h
theorem setMany_full {l m:List Nat} (h:l.length=m.length):setMany l 0 m=m:=by
 apply List.ext_getElem?
 intro k
 rw[setMany_get _ _ _ _ (by omega)]
 split
 ·rfl
 ·rw[List.getElem?_eq_none (by omega),List.getElem?_eq_none (by omega)]
theorem cpN_full {L m:Nat} (h:L=m):cpN none L m=m:=by subst h;exact Nat.min_self _
theorem wr64 {n:Int} (h0:0≤n) (h1:n≤18446744073709551615):wr .u64 n=n:=by
 rw[wr_eq]
 show n.emod _=n
 exact Int.emod_eq_of_lt h0 (by show n<18446744073709551616;omega)
theorem wr32 {n:Int}:wr .u32 n=n%4294967296:=by rw[wr_eq];rfl
theorem wr64n {n:Nat} (h:n<18446744073709551616):wr .u64 (n:Int)=n:=wr64 (by omega) (by omega)
theorem wr32n {n:Nat} (h:n<4294967296):wr .u32 (n:Int)=n:=by rw[wr32];omega
theorem wr32m (n:Nat):wr .u32 (n:Int)=(n%4294967296:Nat):=by rw[wr32];omega
theorem proper_fn (J:Inv) (l:List Nat) (hl:l.length≤1073741824):Fn Tryz.prog J 143 false [wV l] (wV (trim l)):=by
 refine fnI Tryz.func143 rfl (by kernel_rfl) (wV_cl _) (S0_ok J) ?_
 unfold Tryz.f143
 simp only[bR,S0,wV]
 refine LoopC.intro (α:=Nat) (fun k=>k≤l.length∧trim (l.take k)=trim l) (fun k=>⟨[(0,wV (l.take k))],[],0⟩) (fun k=>k) l.length ⟨Nat.le_refl _,by rw[List.take_length]⟩ ?_ ?_
 ·simp only[bR,reduceLeDiff,↓reduceIte,reduceCtorEq,wV]
  rw[List.take_length]
 ·rintro k ⟨h1,h2⟩
  have hlen:(l.take k).length=k:=by rw[List.length_take];omega
  simp only[bR,reduceEqDiff,reduceLT,↓reduceIte,reduceCtorEq,wV,hlen]
  have e:((k:Int)-1).toNat=k-1:=by omega
  rw[e]
  refine⟨fun _=>by constructor<;>omega,fun _=>by omega,fun _=>by omega,fun hb=> ?_,fun hb=> ?_⟩
  ·simp only[Bool.and_eq_true,decide_eq_true_eq,beq_iff_eq] at hb
   obtain⟨k,rfl⟩: ∃j,k=j+1:=⟨k-1,by omega⟩
   have h3:l.getD k 0=0:=by
    have:=hb.2
    rw[Nat.add_sub_cancel,getD_take (by omega)] at this
    omega
   refine⟨by constructor<;>omega,by omega,by omega,Again.intro k ⟨by omega,by rw[←h2,trim_take (by omega) h3]⟩ (by omega) ?_⟩
   simp only[bR,reduceLeDiff,↓reduceIte]
   rw[List.take_take]
   congr 2
   omega
  ·refine⟨by omega,by omega,by omega,?_⟩
   rw[List.take_take,Nat.min_self]
   congr 1
   rw[←h2]
   cases k with
   |zero=>rfl
   |succ k=>
    rw[trim_take_last (by omega)]
    intro h0
    rw[Nat.add_sub_cancel,getD_take (by omega),h0] at hb
    simp at hb
def SG1f:FuncId→List V→CR:=fun f args=>tab [(143,cW fun a=>cF [a.length≤1073741824] false (wV (trim a)))] noF f args
def SG1 (J:Inv):Sig:=⟨J,sdf,SG1f,noH,0⟩
theorem SG1_ok (J:Inv):SigOk Tryz.prog (SG1 J):= .plain (tab_ok (.c (.w fun a=> .z fun⟨c0,_⟩=>proper_fn J a c0)<| .n) noF_ok)
theorem value_fn (J:Inv) (l:List Nat) (hl:l.length≤1073741824):Fn Tryz.prog J 141 false [wV l] (wV (trim l)):=by
 refine fnI Tryz.func141 rfl (by kernel_rfl) (wV_cl _) (SG1_ok J) ?_
 unfold Tryz.f141
 simp only[↓bE,bR,↓reduceIte,reduceCtorEq,SG1,SG1f,wV,unW_wds]
 exact hl
end Go.Proofs.YtfengpdaocgcnaaGreatDoor
