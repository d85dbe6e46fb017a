/- Results: a key and an error, read-only. Numbers and identifiers, there and back. Plain Lean. Oid: the walk. -/
import Derived.Test.YtfengpdaocgcnaaGreatDoorQ41
import Derived.Test.YtfengpdaocgcnaaGreatDoorQ43
import Derived.Test.YtfengpdaocgcnaaGreatDoorQ34
import Derived.Test.YtfengpdaocgcnaaGreatDoorQ37
import Derived.Lib.ItoaLen
namespace Go.Proofs.YtfengpdaocgcnaaGreatDoor
open Nat (reduceMul reduceLeDiff reduceEqDiff reduceLT reduceAdd reduceSub reduceDiv)
open Int (reduceToNat reducePow)
open Go.RowKit
set_option linter.unusedSimpArgs false
set_option maxRecDepth 100000
def kyR (v:V) (k:Ky):Prop:=keyW (fun q=>some ([],true,q.V)) v=some ([],true,k.V)
theorem kyR_rep {v:V} {k:Ky} (h:kyR v k) {w:World} {F:Cx} {x:Value} (hr:Rep w F v x):Rep w F k.V x:=by
 obtain⟨q,h1,h2⟩:=keyW_some h
 have e:q.V=k.V:=by
  simp only[Option.some.injEq,Prod.mk.injEq] at h1
  exact h1.2.2
 rw[←e]
 exact h2 _ _ _ hr
section
variable {P:Program} {G:Sig} {x:Fx} {F:Cx} {w:World} {a:Act} {s:S}
theorem box_pe (hs:Sat x s F a w) {ks:List Nat} {k:Nat} {ty:TypeId} {cs:List V} {y:Value} (hk:Hroot s.h k=some (.box ty (.st cs))) (hc:clL cs=true) (h0:0<cs.length) (hm:k∈ks) (hr:Rep w F (.op k 0) y):Rep w (F.less s.h ks) (.pe (.sq cs.length .any [.st cs]) 0 0) y:=by
 obtain⟨b,hO,rfl⟩:=rep_op hr
 obtain⟨b',cells,u,hO',hheap,hsz,h1,h2,_⟩:=hs.own (.r k) _ hk
 rw[hO] at hO'
 obtain rfl:b=b':=by simpa using hO'
 have hcs:(V.st cs).csize=cs.length:=rfl
 have hp:Rep w (F.less s.h ks) (.pe (.sq cs.length .any [.st cs]) 0 0) (.pointer (some ⟨b,0+(0*cs.length+0),none⟩)):=by
  refine .pe (.sq cs.length .any [.st cs]) cs.length 1 (fun i=>[V.st cs].getD i .any) 0 0 b 0 (fun _ j=>u j) (by simp only[V.elems,List.length_singleton];rw[if_neg (by omega)]) (by omega) (heap_lt hheap) (fun hb=>hb.2 ⟨.r k,_,hm,hk,by simp[Cx.blk,hO]⟩) (fun i hi j hj=> ?_) (fun i hi j hj=> ?_)
  ·obtain rfl:i=0:=by omega
   have h3:=h1 j (by rw[hcs];exact hj)
   rw[show 0+(0*cs.length+j)=j by omega]
   exact⟨(cell0 hheap j).trans h3.1,h3.2⟩
  ·obtain rfl:i=0:=by omega
   have h3:=h2 j (by rw[hcs];exact hj)
   have hcl:((V.st cs).cell j).cl=true:=by
    rw[clL_all] at hc
    show(cs.getD j .any).cl=true
    exact List.all_eq_true.1 hc _ (by simp[List.getD_eq_getElem?_getD,hj])
   exact h3.cl_any hcl fun b hb=>hb.1
 rwa [show 0+(0*cs.length+0)=0 by omega] at hp
def errP (h:List (Nat×Ob)) (q r:V):Prop:=match q with
 | .ifc t (.op k 0)=>match Hroot h k with
  |some (.box _ (.st cs))=>clL cs=true∧(0<cs.length∧r= .ifc t (.pe (.sq cs.length .any [.st cs]) 0 0))
  |_=>False
 |q=>q=r
def errK:V→List Nat
 | .ifc _ (.op k _)=>[k]
 |_=>[]
theorem errP_ok (hs:Sat x s F a w) {ks:List Nat} {q r:V} {y:Value} (h:errP s.h q r) (hm: ∀k,k∈errK q→k∈ks) (hr:Rep w F q y):Rep w (F.less s.h ks) r y:=by
 unfold errP at h
 split at h
 ·split at h
  ·rename_i hk
   obtain⟨h1,h2,rfl⟩:=h
   obtain⟨z,rfl,hz⟩:=rep_ifc hr
   exact .ifc _ _ _ (box_pe hs hk h1 h2 (hm _ (by simp[errK])) hz)
  ·exact h.elim
 ·subst h;exact hr.le (less_le F s.h ks w)
def RX (P:Program) (t:Nat) (ty:TypeId) (u:Nat) (k:Ky) (r2:V) (nx:Nat) (s:S):Prop:=match cellR P s t ty with
 |some (v,l)=>obs (l++(fz s.h v).2) (kyR (fz s.h v).1 k∧match s.e.get u with
  |some q=>errP s.h q r2∧s.nx≤nx
  |none=>False)
 |none=>False
def RE (u:Nat) (r2:V) (nx:Nat) (s:S):Prop:=match s.e.get u with
 |some q=>errP s.h q r2∧s.nx≤nx
 |none=>False
theorem fnK {f:FuncId} {fn:Func} {c:Code} {args:List V} {t:Nat} {ty:TypeId} {u:Nat} {k:Ky} {r2:V} {nx:Nat} (hr:fn.results.toList=[.cell t ty, .tmp u]) (hf:P.funcs[f]?=some fn) (hb:fn.body=some c) (hk:chkFn P fn c args.length=true) (hG:SigOk P G) (hGb:G.b=0) (hc:r2.cl=true)
  (h:vg P G c ⟨enOf 0 args,[],0⟩ ⟨RenC G.b (RX P t ty u k r2 nx),RenC G.b (RX P t ty u k r2 nx),[]⟩):Fn P G.J f false args (.tu [k.V,r2]):=by
 refine Fn.of_plain (nx:=nx) (post:=[]) ?_ (by simp[V.cl,clL,Ky.V,keyV,hc])
 refine fnH_introR (RX P t ty u k r2 nx) (fun x s F a w h hs=> ?_) hf hb (chkFn_ok hk).1 (chkFn_ok hk).2.1 (chkFn_ok hk).2.2.1 (chkFn_ok hk).2.2.2 hG hGb h
 have hrr:fn.results= #[.cell t ty, .tmp u]:=by rw[←Array.toList_inj,hr]
 unfold RX at h
 split at h
 ·rename_i v l hv
  rw[obs_iff] at h
  obtain⟨hl,h1,h2⟩:=h
  obtain⟨hl1,hl2⟩:=allP_app hl
  split at h2
  ·rename_i q hq
   obtain⟨b,j,z,hb,hz,hrep⟩:=cellR_ok hv hl1 hs
   have r1:=kyR_rep h1 (fz_ok hs (ks:=rts v++errK q) hrep hl2 fun k hk=>List.mem_append_left _ hk)
   have r2:=errP_ok hs (ks:=rts v++errK q) h2.1 (fun k hk=>List.mem_append_right _ hk) (hs.env u _ hq).2
   refine⟨_,_, .tuple #[z,a.tmps.getD u undef],hs.less (rts v++errK q),⟨trivial,h2.2⟩,?_, .tu _ _ (fun j=>if j=0 then z else a.tmps.getD u undef) rfl (fun j hj=> ?_) (fun j hj=> ?_)⟩
   ·rw[Array.getD_eq_getD_getElem?] at hb
    simp[results,hrr,hb,asAddr,hz]
   ·have:j=0∨j=1:=by simp at hj;omega
    rcases this with rfl|rfl<;>rfl
   ·have:j=0∨j=1:=by simp at hj;omega
    rcases this with rfl|rfl
    ·exact r1
    ·exact r2
  ·exact h2.elim
 ·exact h.elim
theorem fnE {f:FuncId} {fn:Func} {c:Code} {args:List V} {u:Nat} {r2:V} {nx:Nat} (hr:fn.results.toList=[.tmp u]) (hf:P.funcs[f]?=some fn) (hb:fn.body=some c) (hk:chkFn P fn c args.length=true) (hG:SigOk P G) (hGb:G.b=0) (hc:r2.cl=true)
  (h:vg P G c ⟨enOf 0 args,[],0⟩ ⟨RenC G.b (RE u r2 nx),RenC G.b (RE u r2 nx),[]⟩):Fn P G.J f false args r2:=by
 refine Fn.of_plain (nx:=nx) (post:=[]) ?_ hc
 refine fnH_introR (RE u r2 nx) (fun x s F a w h hs=> ?_) hf hb (chkFn_ok hk).1 (chkFn_ok hk).2.1 (chkFn_ok hk).2.2.1 (chkFn_ok hk).2.2.2 hG hGb h
 have hrr:fn.results= #[.tmp u]:=by rw[←Array.toList_inj,hr]
 unfold RE at h
 split at h
 ·rename_i q hq
  exact⟨_,_,_,hs.less (errK q),⟨trivial,h.2⟩,results_tmp hrr _ _ _,errP_ok hs h.1 (fun k hk=>hk) (hs.env u _ hq).2⟩
 ·exact h.elim
end
def errW (s:List UInt8) (c:Int):V:= .ifc 74 (.pe (.sq 2 .any [.st [.str s, .val (.iface 28 (.int .i64 c))]]) 0 0)
def errO:Option (List UInt8×Int)→V
 |none=> .val .nilIface
 |some p=>errW p.1 p.2
theorem errO_cl (e:Option (List UInt8×Int)):(errO e).cl=true:=by
 cases e<;>rfl
theorem shape_fn (J:Inv) (s:List UInt8):Fn Tryz.prog J 74 false [.str s] (errW s 80):=by
 refine fnE (u:=2) (nx:=2) (by kernel_rfl) Tryz.func74 rfl (by kernel_rfl) (S0_ok J) rfl rfl ?_
 simp only[↓bD,bQ,reduceMul,reduceLeDiff,reduceEqDiff,reduceLT,reduceAdd,reduceSub,↓reduceIte,reduceCtorEq,reduceToNat,reducePow,Nat.reduceBEq,reduceDiv,S0,S0f]
 refine RenC.skip ?_
 simp only[↓bD,bQ,reduceMul,reduceLeDiff,reduceEqDiff,reduceLT,reduceAdd,reduceSub,↓reduceIte,reduceCtorEq,reduceToNat,reducePow,Nat.reduceBEq,reduceDiv,RE,errP,errW]
 skip
theorem is_fn (J:Inv) (s:List UInt8) (c d:Int):Fn Tryz.prog J 44 false [errW s c, .val (.iface 28 (.int .i64 d))] (.bb (c==d)):=by
 refine⟨⟨_,Tryz.func44,by kernel_rfl,by kernel_rfl⟩,fun w F vs hI hF hlen hvs=> ?_⟩
 obtain⟨x,y,rfl⟩: ∃x y,vs=[x,y]:=by
  match vs,hlen with
  |[x,y],_=>exact⟨x,y,rfl⟩
 obtain⟨z,rfl,hz⟩:=rep_ifc (hvs 0 _ x rfl rfl)
 obtain rfl:=rep_val (hvs 1 _ y rfl rfl)
 cases hz with
 |sl _ _ _ _ _ _ _ _ _ he=>simp[V.elems] at he
 |pe _ sz n cc _ _ b off u he hi hb hF' hc hr=>
  obtain⟨rfl,rfl,rfl⟩:2=sz∧1=n∧_=cc:=by simpa [V.elems] using he
  have h1:=(hc 0 (by omega) 1 (by omega)).1
  obtain h2:=rep_val (hr 0 (by omega) 1 (by omega))
  rw[h2] at h1
  refine(is_core b (off+(0*2+0)) c d w h1).mono fun e w' he=> ?_
  obtain⟨rfl,rfl⟩:=he
  exact⟨_,rfl,Ext.refl _, .bb _⟩
theorem isn_fn (J:Inv) (d:Int):Fn Tryz.prog J 44 false [.val .nilIface, .val (.iface 28 (.int .i64 d))] (.bb false):=by
 refine⟨⟨_,Tryz.func44,by kernel_rfl,by kernel_rfl⟩,fun w F vs hI hF hlen hvs=> ?_⟩
 obtain⟨x,y,rfl⟩: ∃x y,vs=[x,y]:=by
  match vs,hlen with
  |[x,y],_=>exact⟨x,y,rfl⟩
 obtain rfl:=rep_val (hvs 0 _ x rfl rfl)
 obtain rfl:=rep_val (hvs 1 _ y rfl rfl)
 refine(is_nil d w).mono fun e w' he=> ?_
 obtain⟨rfl,rfl⟩:=he
 exact⟨_,rfl,Ext.refl _, .bb _⟩
theorem right2 (l:List UInt8):rightF 2 l=((l.length:Int)==1||(decide (1<(l.length:Int))&& !(byteAt l 0==0&&decide (byteAt l 1<128))&& !(byteAt l 0==255&&decide (128≤byteAt l 1)))):=by
 unfold rightF;rw[if_neg (by decide),if_pos rfl]
theorem uint_of (b:List UInt8):uintF ⟨2,ofuD b,0⟩=(leastF b,true):=by
 unfold ofuD
 rcases leastF_head b with h|⟨c,r,h,hc,hl⟩
 ·rw[h];decide
 ·rw[h]
  have h0:=ne0 hc
  have hb:=c.toNat_lt
  by_cases h8:128≤c.toNat
  ·rw[if_pos (.inr (by rw[byteAt_cons];omega))]
   unfold uintF
   rw[if_pos]
   ·show(leastF (0::c::r),true)=_
    rw[leastF,if_pos rfl,hl]
   ·refine⟨rfl,rfl,?_,?_⟩
    ·show rightF 2 (0::c::r)=true
     rw[right2,byteAt_cons,byteAt_cons1]
     have: ¬(c.toNat:Int)<128:=by omega
     simp[this]
     omega
    ·show byteAt (0::c::r) 0<128
     rw[byteAt_cons];decide
  ·have hlt: ¬((c::r).length=0∨128≤byteAt (c::r) 0):=by rw[byteAt_cons];simp;omega
   rw[if_neg hlt]
   unfold uintF
   rw[if_pos]
   ·show(leastF (c::r),true)=_
    rw[hl]
   ·refine⟨rfl,rfl,?_,?_⟩
    ·show rightF 2 (c::r)=true
     rw[right2,byteAt_cons]
     have e1:((c.toNat:Int)==0)=false:=by simp;omega
     have e2:((c.toNat:Int)==255)=false:=by simp;omega
     rw[e1,e2]
     cases r<;>simp<;>omega
    ·show byteAt (c::r) 0<128
     rw[byteAt_cons];omega
theorem of_uint {t:Tlv} {n:List UInt8} (h:uintF t=(n,true)):ofuD n=t.data∧t.tag=2∧t.kids=0∧rightF 2 t.data=true∧0<t.data.length∧byteAt t.data 0<128:=by
 unfold uintF at h
 split at h
 ·rename_i hc
  obtain⟨h1,h2,h3,h4⟩:=hc
  obtain rfl:leastF t.data=n:=(Prod.mk.inj h).1
  have key: ∀d:List UInt8,rightF 2 d=true→byteAt d 0<128→ofuD (leastF d)=d∧0<d.length:=by
   intro d hr hb
   match d with
   |[]=>rw[show rightF 2 []=false from by decide] at hr;cases hr
   |[c]=>
    refine⟨?_,by simp⟩
    rw[byteAt_cons] at hb
    by_cases h0:c=0
    ·subst h0;decide
    ·have e:leastF [c]=[c]:=by rw[leastF,if_neg h0]
     rw[e];unfold ofuD;rw[e,if_neg (by rw[byteAt_cons];simp;omega)]
   |c::e::r=>
    refine⟨?_,by simp⟩
    rw[right2,byteAt_cons,byteAt_cons1] at hr
    rw[byteAt_cons] at hb
    by_cases h0:c=0
    ·subst h0
     have h8:128≤e.toNat:=by
      by_cases h8:128≤e.toNat
      ·exact h8
      ·have:(e.toNat:Int)<128:=by omega
       simp[this] at hr
       omega
     have he:e≠0:=fun h=>by subst h;simp at h8
     have l1:leastF (e::r)=e::r:=by rw[leastF,if_neg he]
     have l0:leastF (0::e::r)=e::r:=by rw[leastF,if_pos rfl,l1]
     rw[l0];unfold ofuD;rw[l1,if_pos (.inr (by rw[byteAt_cons];omega))];rfl
    ·have l1:leastF (c::e::r)=c::e::r:=by rw[leastF,if_neg h0]
     rw[l1];unfold ofuD;rw[l1,if_neg (by rw[byteAt_cons];simp;omega)]
  obtain⟨k1,k2⟩:=key t.data h3 h4
  exact⟨k1,h1,h2,h3,k2,h4⟩
 ·cases (Prod.mk.inj h).2
theorem shaped_one {t:Tlv} (h1:tagF t.tag=true) (h2:innerF t.tag=false) (h3:t.kids=0) (h4:rightF t.tag t.data=true):shapedF [t]=true:=by
 unfold shapedF stF stB
 simp[h1,h2,h3,h4]
def gr:Bool→List UInt8→Bool
 |b,[]=>b
 |b,c::r=> !(b&&decide (c.toNat=128))&&gr (decide (c.toNat<128)) r
theorem gr_groups (l:List UInt8): ∀k i,i+k=l.length→(groupsTo l i&&gr (beginsAt l i) (l.drop i))=(beginsAt l l.length&&groupsTo l l.length):=by
 intro k
 induction k with
 |zero=>
  intro i hi
  obtain rfl:i=l.length:=by omega
  rw[List.drop_length,gr,Bool.and_comm]
 |succ k ih=>
  intro i hi
  have hlt:i<l.length:=by omega
  have h:=ih (i+1) (by omega)
  rw[←h,groupsTo_succ,List.drop_eq_getElem_cons hlt,gr]
  have e:byteAt l i=(l[i].toNat:Int):=by unfold byteAt;rw[List.getD_eq_getElem?_getD,List.getElem?_eq_getElem hlt];rfl
  have e1:(byteAt l i==128)=decide (l[i].toNat=128):=by rw[Bool.eq_iff_iff,beq_iff_eq,decide_eq_true_eq,e];omega
  have e2:beginsAt l (i+1)=decide (l[i].toNat<128):=by
   show decide (byteAt l i<128)=_
   rw[e];exact decide_eq_decide.2 (by omega)
  rw[e1,e2,Bool.and_assoc]
theorem groupsF_gr (l:List UInt8):groupsF l=(decide (0<l.length)&&gr true l):=by
 have h:=gr_groups l l.length 0 (by omega)
 unfold groupsF
 rw[Bool.and_assoc,←h]
 simp[groupsTo,beginsAt]
theorem gr_hi (m:Nat): ∀r,gr true (hiF m++r)=if m=0 then gr true r else gr false r:=by
 induction m using Nat.strongRecOn with
 |_ m ih=>
  intro r
  by_cases h:m=0
  ·subst h;rw[hiF_zero];simp
  ·rw[hiF_pos h,List.append_assoc,ih (m/128) (by omega),if_neg h]
   have hu:=u8_nat (n:=128+m%128) (by omega)
   have h2: ¬(128+m%128<128):=by omega
   by_cases h0:m/128=0
   ·have h1: ¬(128+m%128=128):=by omega
    rw[if_pos h0,List.singleton_append,gr,hu]
    simp only[h1,h2,decide_false,Bool.and_false,Bool.not_false,Bool.true_and]
   ·rw[if_neg h0,List.singleton_append,gr,hu]
    simp only[h2,decide_false,Bool.false_and,Bool.not_false,Bool.true_and]
theorem gr_grp (m:Nat) (r:List UInt8):gr true (grpF m++r)=gr true r:=by
 unfold grpF
 rw[List.append_assoc,gr_hi]
 have hu:=u8_nat (n:=m%128) (by omega)
 have h2:m%128<128:=by omega
 have h1: ¬(m%128=128):=by omega
 split<;>rw[List.singleton_append,gr,hu]<;>simp only[h1,h2,decide_true,decide_false,Bool.and_false,Bool.false_and,Bool.not_false,Bool.true_and]
theorem gr_grps: ∀ms:List Nat,gr true (ms.flatMap grpF)=true
 |[]=>rfl
 |m::r=>by rw[List.flatMap_cons,gr_grp,gr_grps r]
theorem oidS_hi (m:Nat):m≤2147483727→ ∀r out,oidS (hiF m++r) out 0=oidS r out m:=by
 induction m using Nat.strongRecOn with
 |_ m ih=>
  intro hm r out
  by_cases h:m=0
  ·subst h;rw[hiF_zero];rfl
  ·rw[hiF_pos h,List.append_assoc,ih (m/128) (by omega) (by omega),List.singleton_append,oidS]
   have hu:=u8_nat (n:=128+m%128) (by omega)
   rw[hu,show m/128*128+(128+m%128)%128=m from by omega,if_neg (by omega),if_pos (by omega)]
theorem oidS_grp (m:Nat) (hm:m≤2147483727) (r:List UInt8) (out:List (List UInt8)):oidS (grpF m++r) out 0=
  if out.length=0 then if 2147483647<m-40*min (m/40) 2 then none else oidS r [Lib.itoa (min (m/40) 2:Nat),Lib.itoa (m-40*min (m/40) 2:Nat)] 0
  else if 2147483647<m then none else oidS r (out++[Lib.itoa (m:Nat)]) 0:=by
 unfold grpF
 rw[List.append_assoc,oidS_hi (m/128) (by omega),List.singleton_append,oidS]
 have hu:=u8_nat (n:=m%128) (by omega)
 rw[hu,show m/128*128+m%128%128=m from by omega,if_neg (by omega),if_neg (by omega)]
theorem oidS_all: ∀(ms:List Nat) (out:List (List UInt8)),out.length≠0→(∀m∈ms,m≤2147483647)→oidS (ms.flatMap grpF) out 0=some (out++ms.map fun m:Nat=>Lib.itoa m)
 |[],out,_,_=>by simp[oidS]
 |m::r,out,h,hm=>by
  have h1:=hm m (by simp)
  rw[List.flatMap_cons,oidS_grp m (by omega),if_neg h,if_neg (by omega),oidS_all r _ (by simp) fun x hx=>hm x (by simp[hx])]
  simp
theorem right6 (l:List UInt8):rightF 6 l=groupsF l:=by
 unfold rightF;rw[if_neg (by decide),if_neg (by decide),if_neg (by decide),if_neg (by decide),if_pos rfl]
theorem nums_map: ∀{r:List (List UInt8)},r.all numOk=true→ ∃ms:List Nat,(∀m∈ms,m≤2147483647)∧r=ms.map (fun m:Nat=>Lib.itoa m)∧(r.flatMap fun p=>grpF (numV p).toNat)=ms.flatMap grpF
 |[],_=>⟨[],by simp,rfl,rfl⟩
 |p::r,h=>by
  simp only[List.all_cons,Bool.and_eq_true] at h
  obtain⟨n,h1,h2,h3⟩:=num_of h.1
  obtain⟨ms,q1,q2,q3⟩:=nums_map h.2
  refine⟨n::ms,?_,by rw[List.map_cons,←q2,←h2],by rw[List.flatMap_cons,List.flatMap_cons,q3,h3];rfl⟩
  intro x hx
  rcases List.mem_cons.1 hx with rfl|hx
  ·exact h1
  ·exact q1 x hx
theorem oid_of {s d:List UInt8} (h:ooF (spl 46 s)=some d):oidF ⟨6,d,0⟩=(s,true)∧shapedF [⟨6,d,0⟩]=true:=by
 have hj:=join_spl 46 s
 unfold ooF at h
 split at h
 ·rename_i a b r hs
  split at h
  ·rename_i hc
   obtain⟨h1,h2,h3⟩:=hc
   simp only[List.all_cons,Bool.and_eq_true] at h1
   obtain⟨na,a1,a2,a3⟩:=num_of h1.1
   obtain⟨nb,b1,b2,b3⟩:=num_of h1.2.1
   obtain⟨ms,q1,q2,q3⟩:=nums_map h1.2.2
   obtain rfl:=Option.some.inj h
   rw[q3,a3,b3,show((40*(na:Int)+(nb:Int)).toNat)=40*na+nb from by omega]
   have hg:rightF 6 (grpF (40*na+nb)++ms.flatMap grpF)=true:=by
    rw[right6,groupsF_gr,gr_grp,gr_grps]
    have:=grpF_ne (40*na+nb)
    have:0<(grpF (40*na+nb)++ms.flatMap grpF).length:=by rw[List.length_append];omega
    rw[decide_eq_true this];rfl
   refine⟨?_,shaped_one (show tagF 6=true by decide) (show innerF 6=false by decide) rfl hg⟩
   unfold oidF
   rw[if_pos ⟨rfl,rfl,hg⟩]
   have ht:min ((40*na+nb)/40) 2=na:=by omega
   show(match oidS (grpF (40*na+nb)++ms.flatMap grpF) [] 0 with
    |some l=>(Lib.join l [46],true)
    |none=>([],false))=(s,true)
   rw[oidS_grp _ (by omega),if_pos (show([]:List (List UInt8)).length=0 from rfl),ht,show 40*na+nb-40*na=nb from by omega,if_neg (by omega),oidS_all ms _ (by simp) q1]
   simp only
   rw[←a2,←b2,←q2,List.cons_append,List.cons_append,List.nil_append,←hs,hj]
  ·cases h
 ·cases h
noncomputable def G9:Sig:=⟨JD,df,G9f,noH,0⟩
theorem G9_ok:SigOk Tryz.prog G9:=by
 refine .plain fun f args l fr r h hl=> ?_
 unfold G9f at h
 split at h
 ·rename_i hf;subst hf
  split at h
  ·obtain⟨rfl,rfl,rfl⟩:=some_tri h;exact dright_fn JD _ _ (hl _ (List.mem_cons_self ..))
  ·exact absurd h (by simp)
 ·split at h
  ·rename_i hf;subst hf
   split at h
   ·obtain⟨rfl,rfl,rfl⟩:=some_tri h;exact itoa_fn _ (hl _ (List.mem_cons_self ..))
   ·exact absurd h (by simp)
  ·split at h
   ·rename_i hf;subst hf
    split at h
    ·rename_i sz d L s
     obtain⟨rfl,rfl,rfl⟩:=some_tri h
     have h1:sz=1:=hl _ (by simp)
     have h2:d= .str []:=hl _ (by simp)
     have h3:L=strs (unS L):=hl _ (by simp)
     have h4:(unS L).length≤140737488355328:=hl _ (by simp)
     have h5:(Lib.join (unS L) s).length≤140737488355328:=hl _ (by simp)
     subst h1 h2
     have:=join_fn (unS L) s h4 h5
     rw[←h3] at this
     exact this
    ·exact absurd h (by simp)
   ·exact absurd h (by simp)
theorem oid_or (n b:Nat) (hn:n≤2147483727) (hb:b<256):bt .or .i64 (wr .i64 ((n:Int)*128)) (wr .i64 (bt .and .u8 (b:Int) 127))=((n*128+b%128:Nat):Int):=by
 have e1:wr .i64 ((n:Int)*128)=((n*128:Nat):Int):=by rw[wr_eq,IntKind.wrap_i64];omega
 have e2:=u8_and_nat b 127 (by omega) (by omega)
 have e0:b&&&127=b%128:=by rw[show(127:Nat)=2^7-1 from rfl,Nat.and_two_pow_sub_one_eq_mod]
 rw[show((127:Nat):Int)=127 from rfl] at e2
 rw[e1,bt_eq .and,e2,e0]
 rw[show wr .i64 ((b%128:Nat):Int)=((b%128:Nat):Int) from by rw[wr_eq,IntKind.wrap_i64];omega]
 rw[i64_or_nat _ _ (by omega) (by omega)]
 congr 1
 exact nat_join 7 (n*128) (b%128) (by omega) (by omega)
theorem lens_le: ∀l:List (List UInt8),(∀x∈l,x.length≤21)→Lib.lens l≤l.length*21
 |[],_=>by simp[Lib.lens]
 |x::r,h=>by
  have h1:=h x (by simp)
  have h2:=lens_le r fun z hz=>h z (List.mem_cons_of_mem _ hz)
  simp only[Lib.lens,List.map_cons,List.sum_cons,List.length_cons] at h2⊢
  omega
theorem join_len (l:List (List UInt8)) (s:List UInt8) (h: ∀x∈l,x.length≤21):(Lib.join l s).length≤s.length*l.length+l.length*21:=by
 have h2:=lens_le l h
 cases l with
 |nil=>simp[Lib.join]
 |cons x r=>
  rw[Lib.join_length]
  have:s.length*r.length≤s.length*(x::r).length:=Nat.mul_le_mul_left _ (by simp)
  omega
theorem oid_step {d:List UInt8} {i:Nat} (h:i<d.length) (out:List (List UInt8)) (n m:Nat) (hm:n*128+byteN d i%128=m):oidS (d.drop i) out n=
  if 2147483727<m then none
  else if 128≤byteN d i then oidS (d.drop (i+1)) out m
  else if out.length=0 then
   if 2147483647<m-40*min (m/40) 2 then none
   else oidS (d.drop (i+1)) [Lib.itoa (min (m/40) 2:Nat),Lib.itoa (m-40*min (m/40) 2:Nat)] 0
  else if 2147483647<m then none
  else oidS (d.drop (i+1)) (out++[Lib.itoa (m:Nat)]) 0:=by
 subst hm
 have e:byteN d i=d[i].toNat:=by rw[byteN_eq,List.getElem?_eq_getElem h];rfl
 rw[List.drop_eq_getElem_cons h,oidS,e]
theorem Oid_own (t:Tlv) (hl:t.data.length≤1000000000000):FnH Tryz.prog JD 24 [tlvV t] [] 0 (.tu [.str (oidF t).1, .bb (oidF t).2]) [] 3:=by
 refine fnJ Tryz.func24 rfl (by kernel_rfl) G9_ok rfl ?_
 unfold Tryz.f24
 simp only[bnA,↓shr_eq,reduceMul,reduceLeDiff,reduceEqDiff,reduceLT,reduceAdd,reduceSub,↓reduceIte,reduceCtorEq,reduceToNat,reducePow,Nat.reduceBEq,reduceDiv,G9,G9f,tlvV,unS_strs]
 obtain⟨N,hN⟩: ∃N:Nat,N=2147483727:=⟨_,rfl⟩
 have hI: ∀k,I64 k→(Lib.itoa k).length≤21:=fun k h=>Lib.itoa_length_le k h.lo h.hi
 refine⟨fun _=>by omega,fun h=> ?_,fun h=> ?_⟩
 ·have e:oidF t=([],false):=by
   unfold oidF
   rw[if_neg]
   rintro⟨h1,h2,h3⟩
   rw[h1,h2,h3] at h
   simp at h
  rw[e]
  refine .inl ?_
  simp only[bnA,↓shr_eq,reduceMul,reduceLeDiff,reduceEqDiff,reduceLT,reduceAdd,reduceSub,↓reduceIte,reduceCtorEq,reduceToNat,reducePow,Nat.reduceBEq,reduceDiv]
 ·simp only[Bool.or_eq_false_iff,Bool.not_eq_false',beq_iff_eq] at h
  have e:oidF t=match oidS t.data [] 0 with
    |some l=>(Lib.join l [46],true)
    |none=>([],false):=by
   unfold oidF
   rw[if_pos ⟨h.1.1,h.1.2,by rw[←h.1.1];exact h.2⟩]
   rfl
  refine LoopC.introA (α:=Nat×List (List UInt8)×Nat×Nat) (fun y=>y.1≤t.data.length∧oidS (t.data.drop y.1) y.2.1 y.2.2.1=oidS t.data [] 0∧y.2.1.length≤2*y.1∧y.2.2.1≤N∧0<y.2.2.2∧ ∀s∈y.2.1,s.length≤21)
   (fun y=>⟨[(4, .ro (.r y.2.2.2)),(5, .i y.2.2.1),(26, .by t.data),(27, .i t.data.length),(28, .i y.1)],[(y.2.2.2, .row 9 (.sq 1 (.str []) (strs y.2.1)))],y.2.2.2+1⟩)
   (fun y=>t.data.length-y.1) (0,[],0,1) [.sl 4 9 (.sq 1 (.str []) [])] ⟨Nat.zero_le _,rfl,by simp,by simp,by simp,by simp⟩ ?_ ?_
  ·simp only[bnA,↓shr_eq,reduceMul,reduceLeDiff,reduceEqDiff,reduceLT,reduceAdd,reduceSub,↓reduceIte,reduceCtorEq,reduceToNat,reducePow,Nat.reduceBEq,reduceDiv]
   exact⟨⟨rfl,rfl⟩,rfl⟩
  ·rintro⟨i,out,n,k⟩ ⟨q1,q2,q3,q4,q5,q6⟩
   simp only at q1 q2 q3 q4 q5 q6
   simp only[bnA,↓shr_eq,reduceMul,reduceLeDiff,reduceEqDiff,reduceLT,reduceAdd,reduceSub,↓reduceIte,reduceCtorEq,reduceToNat,reducePow,Nat.reduceBEq,reduceDiv,G9,G9f,unS_strs]
   refine⟨fun hi=> ?_,fun hi=> ?_⟩
   ·simp only[decide_eq_true_eq] at hi
    have hi:i<t.data.length:=by omega
    have hb:=byteN_lt t.data i
    rw[byteAt_N,oid_or n _ (by omega) hb]
    generalize hm:n*128+byteN t.data i%128=m
    refine⟨by omega,by omega,by omega,fun h1=> ?_,fun h1=>⟨fun h2=>⟨by constructor<;>omega,?_⟩,fun h2=>⟨fun h3=> ?_,fun h3=> ?_⟩⟩⟩
    ·have h1:2147483727<m:=by simp at h1;omega
     rw[oid_step hi out n m hm,if_pos h1] at q2
     rw[←q2] at e
     have e:oidF t=([],false):=e
     rw[e]
     refine RenC.intro [] ⟨[(2, .str []),(3, .bb false)],[],3⟩ ?_ ?_<;>simp only[bnA,↓shr_eq,reduceMul,reduceLeDiff,reduceEqDiff,reduceLT,reduceAdd,reduceSub,↓reduceIte,reduceCtorEq,reduceToNat,reducePow,Nat.reduceBEq,reduceDiv]
    ·have h1: ¬2147483727<m:=by simp at h1;omega
     have h2:128≤byteN t.data i:=by simp at h2;omega
     rw[oid_step hi out n m hm,if_neg h1,if_pos h2] at q2
     refine Again.intro (i+1,out,m,k) ⟨by simp only;omega,q2,by simp only;omega,by simp only;omega,q5,q6⟩ (by simp only;omega) ?_
     simp only[bnA,↓shr_eq,reduceMul,reduceLeDiff,reduceEqDiff,reduceLT,reduceAdd,reduceSub,↓reduceIte,reduceCtorEq,reduceToNat,reducePow,Nat.reduceBEq,reduceDiv]
     simp
    ·have h1: ¬2147483727<m:=by simp at h1;omega
     have h2: ¬128≤byteN t.data i:=by simp at h2;omega
     have h3:out.length=0:=by simp at h3;simp[h3]
     rw[oid_step hi out n m hm,if_neg h1,if_neg h2,if_pos h3] at q2
     obtain rfl:out=[]:=List.eq_nil_of_length_eq_zero h3
     have ei:imin ((m:Int)/40) 2=((min (m/40) 2:Nat):Int):=by rw[imin_eq];omega
     have eb:min (m/40) 2≤2∧40*min (m/40) 2≤m:=by omega
     rw[ei]
     generalize min (m/40) 2=p at q2 eb⊢
     have es:(m:Int)-40*(p:Int)=((m-40*p:Nat):Int):=by omega
     rw[es]
     generalize hr:m-40*p=r at q2⊢
     simp only[List.nil_append,List.length_append,List.length_cons,List.length_nil]
     refine⟨by constructor<;>omega,by omega,by omega,by constructor<;>omega,by omega,by constructor<;>omega,by constructor<;>omega,fun h4=> ?_,fun h4=> ?_⟩
     ·have h4:2147483647<r:=by simp at h4;omega
      rw[if_pos h4] at q2
      rw[←q2] at e
      have e:oidF t=([],false):=e
      rw[e]
      refine RenC.intro [] ⟨[(2, .str []),(3, .bb false)],[],3⟩ ?_ ?_<;>simp only[bnA,↓shr_eq,reduceMul,reduceLeDiff,reduceEqDiff,reduceLT,reduceAdd,reduceSub,↓reduceIte,reduceCtorEq,reduceToNat,reducePow,Nat.reduceBEq,reduceDiv]
     ·have h4: ¬2147483647<r:=by simp at h4;omega
      rw[if_neg h4] at q2
      refine⟨by constructor<;>omega,by omega,by constructor<;>omega,?_⟩
      refine Again.intro (i+1,[Lib.itoa p,Lib.itoa r],0,k+4) ⟨by simp only;omega,q2,by simp only[List.length_cons,List.length_nil];omega,by simp only;omega,by simp only;omega,fun s hs=> ?_⟩ (by simp only;omega) ?_
      ·simp only[List.mem_cons,List.not_mem_nil,or_false] at hs
       rcases hs with rfl|rfl
       ·exact hI _ (by constructor<;>omega)
       ·exact hI _ (by constructor<;>omega)
      ·simp only[bnA,↓shr_eq,reduceMul,reduceLeDiff,reduceEqDiff,reduceLT,reduceAdd,reduceSub,↓reduceIte,reduceCtorEq,reduceToNat,reducePow,Nat.reduceBEq,reduceDiv]
       simp
    ·have h1: ¬2147483727<m:=by simp at h1;omega
     have h2: ¬128≤byteN t.data i:=by simp at h2;omega
     have h3: ¬out.length=0:=fun h=>by simp[h] at h3
     rw[oid_step hi out n m hm,if_neg h1,if_neg h2,if_neg h3] at q2
     refine⟨fun h4=> ?_,fun h4=> ?_⟩
     ·have h4:2147483647<m:=by simp at h4;omega
      rw[if_pos h4] at q2
      rw[←q2] at e
      have e:oidF t=([],false):=e
      rw[e]
      refine RenC.intro [] ⟨[(2, .str []),(3, .bb false)],[],3⟩ ?_ ?_<;>simp only[bnA,↓shr_eq,reduceMul,reduceLeDiff,reduceEqDiff,reduceLT,reduceAdd,reduceSub,↓reduceIte,reduceCtorEq,reduceToNat,reducePow,Nat.reduceBEq,reduceDiv]
     ·have h4: ¬2147483647<m:=by simp at h4;omega
      rw[if_neg h4] at q2
      simp only[List.length_append,List.length_cons,List.length_nil]
      refine⟨by constructor<;>omega,by omega,by constructor<;>omega,?_⟩
      refine Again.intro (i+1,out++[Lib.itoa m],0,k+2) ⟨by simp only;omega,q2,by simp only[List.length_append,List.length_cons,List.length_nil];omega,by simp only;omega,by simp only;omega,fun s hs=> ?_⟩ (by simp only;omega) ?_
      ·simp only[List.mem_append,List.mem_singleton] at hs
       rcases hs with hs|rfl
       ·exact q6 s hs
       ·exact hI _ (by constructor<;>omega)
      ·simp only[bnA,↓shr_eq,reduceMul,reduceLeDiff,reduceEqDiff,reduceLT,reduceAdd,reduceSub,↓reduceIte,reduceCtorEq,reduceToNat,reducePow,Nat.reduceBEq,reduceDiv]
       simp
   ·simp only[decide_eq_false_iff_not] at hi
    rw[List.drop_eq_nil_of_le (by omega),oidS] at q2
    rw[←q2] at e
    have e:oidF t=(Lib.join out [46],true):=e
    rw[e]
    have hj:=join_len out [46] q6
    simp only[List.length_cons,List.length_nil] at hj
    refine⟨by omega,by omega,?_⟩
    refine RenC.intro [] ⟨[(2, .str (Lib.join out [46])),(3, .bb true)],[],3⟩ ?_ ?_
    ·simp only[bnA,↓shr_eq,reduceMul,reduceLeDiff,reduceEqDiff,reduceLT,reduceAdd,reduceSub,↓reduceIte,reduceCtorEq,reduceToNat,reducePow,Nat.reduceBEq,reduceDiv]
    ·simp only[bnA,↓shr_eq,reduceMul,reduceLeDiff,reduceEqDiff,reduceLT,reduceAdd,reduceSub,↓reduceIte,reduceCtorEq,reduceToNat,reducePow,Nat.reduceBEq,reduceDiv]
theorem Oid_fn (t:Tlv) (hl:t.data.length≤1000000000000):Fn Tryz.prog JD 24 false [tlvV t] (.tu [.str (oidF t).1, .bb (oidF t).2]):=
 Fn.of_plain (Oid_own t hl) (by simp[V.cl,clL])
end Go.Proofs.YtfengpdaocgcnaaGreatDoor
