/- A function's contract out of the conditions of its code. Results that stand in a variable. Lists of numbers and of texts as slices. -/
import Derived.Test.YtfengpdaocgcnaaGreatDoorQ14
namespace Go.Proofs.YtfengpdaocgcnaaGreatDoor
open Go.RowKit
def Veq (v res:V):Prop:=
 match v with
 | .val x=>match isNil x with
  |true=>match res.elems with
   |some (_,n,_)=>n=0
   |none=>v=res
  |false=>v=res
 |v=>v=res
def retOne (s:S) (t:Nat) (res:V) (K:S→Prop):Prop:=
 match ug (s.e.get t) with
 |some (v,l)=>match res.cl with
  |true=>obs (l++(fz s.h v).2) (Veq (fz s.h v).1 res∧K {s with h:=HdelK s.h (rts v)})
  |false=>obs l (v=res∧K s)
 |none=>False
def retL (K:S→Prop):List ResultVar→List V→S→Prop
 |[],[],s=>K s
 | .tmp t::r,v::vs,s=>retOne s t v (retL K r vs)
 |_,_,_=>False
def RetK (rs:List ResultVar) (res:V) (K:S→Prop) (s:S):Prop:=
 match rs with
 |[.tmp t]=>retOne s t res K
 |rs=>match res with
  | .tu l=>l.length≤7∧retL K rs l s
  |_=>False
def RetP (rs:List ResultVar) (res:V) (s:S):Prop:=RetK rs res (fun _=>True) s
def Back (post:List (Nat×Ob)) (nx:Nat) (s:S):Prop:=subH s.h post∧s.nx≤nx
def RetH (rs:List ResultVar) (res:V) (post:List (Nat×Ob)) (nx:Nat) (s:S):Prop:=RetK rs res (Back post nx) s
def enOf:Nat→List V→En
 |_,[]=>[]
 |i,v::r=>(i,v)::enOf (i+1) r
section
variable {P:Program} {G:Sig}
theorem enOf_get: ∀(l:List V) (i k:Nat) (v:V),(enOf i l).get k=some v→i≤k∧l[k-i]?=some v:=by
 intro l
 induction l with
 |nil=>intro i k v h;simp[enOf,En.get] at h
 |cons u r ih=>
  intro i k v h
  simp only[enOf,En.get] at h
  split at h
  ·rename_i he;subst he;exact⟨Nat.le_refl _,by simpa using h⟩
  ·rename_i he
   obtain⟨h1,h2⟩:=ih (i+1) k v h
   refine⟨by omega,?_⟩
   rw[show k-i=(k-(i+1))+1 from by omega]
   simpa using h2
theorem veq_rep {w:World} {F:Cx} {v res:V} {y:Value} (h:Veq v res) (hv:Rep w F v y):Rep w F res y:=by
 unfold Veq at h
 split at h
 ·split at h
  ·rename_i hn
   split at h
   ·rename_i sz n c he
    subst h
    obtain rfl:=rep_val hv
    rw[isNil_ok hn]
    exact .sl res sz 0 c none 0 0 0 (fun _ _=>undef) he (Nat.le_refl _) (fun h=>by omega) (fun i hi=>by omega) (fun i hi=>by omega)
   ·subst h;exact hv
  ·subst h;exact hv
 ·subst h;exact hv
theorem retOne_ok {x:Fx} {F:Cx} {w:World} {a:Act} {s:S} {t:Nat} {res:V} {K:S→Prop} (h:retOne s t res K) (hs:Sat x s F a w):
  ∃s' G,Sat x s' G a w∧K s'∧Rep w G res (a.tmps.getD t undef)∧ ∀v y,Rep w F v y→Rep w G v y:=by
 unfold retOne at h
 split at h
 ·rename_i v l hv
  split at h
  ·rw[obs_iff] at h
   obtain⟨hl,hq,hK⟩:=h
   obtain⟨hl1,hl2⟩:=allP_app hl
   have hr:=ug_ok hv hl1 fun v hv=>(hs.env t v hv).2
   exact⟨_,_,hs.less (rts v),hK,veq_rep hq (fz_ok hs hr hl2 fun k hk=>hk),fun v y h=>h.le (less_le F s.h _ w)⟩
  ·rw[obs_iff] at h
   obtain⟨hl,rfl,hK⟩:=h
   have hr:=ug_ok hv hl fun v hv=>(hs.env t v hv).2
   exact⟨s,F,hs,hK,hr,fun _ _ h=>h⟩
 ·exact h.elim
theorem retL_ok {x:Fx} {w:World} {a:Act} {K:S→Prop}: ∀{rs:List ResultVar} {l:List V} {s:S} {F:Cx},retL K rs l s→Sat x s F a w→
  ∃(s':S) (G:Cx) (ts:List Nat),rs=ts.map ResultVar.tmp∧Sat x s' G a w∧K s'∧ts.length=l.length∧(∀j,j<l.length→Rep w G (l.getD j .any) (a.tmps.getD (ts.getD j 0) undef))∧ ∀v y,Rep w F v y→Rep w G v y
 |[],[],s,F,h,hs=>⟨s,F,[],rfl,hs,h,rfl,fun j hj=>by simp at hj,fun _ _ h=>h⟩
 | .tmp t::r,v::vs,s,F,h,hs=>by
  simp only[retL] at h
  obtain⟨s1,G1,hs1,hK,hv,hm⟩:=retOne_ok h hs
  obtain⟨s2,G2,ts,e1,hs2,hK2,e2,hr,hm2⟩:=retL_ok hK hs1
  refine⟨s2,G2,t::ts,by rw[e1];rfl,hs2,hK2,by simp[e2],fun j hj=> ?_,fun v y h=>hm2 _ _ (hm _ _ h)⟩
  cases j with
  |zero=>simpa using hm2 _ _ hv
  |succ j=>simpa using hr j (by simpa using hj)
 |[],v::vs,s,F,h,hs=>by simp[retL] at h
 | .tmp t::r,[],s,F,h,hs=>by simp[retL] at h
theorem run_results {fn:Func} {ts:List Nat} (h:fn.results.toList=ts.map ResultVar.tmp) (hn:ts.length≠1) (h7:ts.length≤7) (tmps:Array Value) (w:World):
  (results fn tmps).run P w= .ok (.tuple (ts.map fun t=>tmps.getD t undef).toArray) w:=by
 have h:fn.results=(ts.map ResultVar.tmp).toArray:=by rw[←h]
 match ts with
 |[]=>simp[results,h]
 |[_]=>exact absurd rfl hn
 |[_,_]=>simp[results,h]
 |[_,_,_]=>simp[results,h]
 |[_,_,_,_]=>simp[results,h]
 |[_,_,_,_,_]=>simp[results,h]
 |[_,_,_,_,_,_]=>simp[results,h]
 |[_,_,_,_,_,_,_]=>simp[results,h]
 |_::_::_::_::_::_::_::_::_=>simp at h7
theorem RetK_ok {x:Fx} {F:Cx} {w:World} {a:Act} {s:S} {fn:Func} {res:V} {K:S→Prop} (h:RetK fn.results.toList res K s) (hs:Sat x s F a w):
  ∃s' G v,Sat x s' G a w∧K s'∧(results fn a.tmps).run P w= .ok v w∧Rep w G res v:=by
 have hres: ∀(l:List ResultVar),fn.results.toList=l→fn.results=l.toArray:=fun l hl=>by rw[←hl]
 unfold RetK at h
 split at h
 ·rename_i t hr
  have hrr:=hres _ hr
  obtain⟨s',G',hs',hB,hv,_⟩:=retOne_ok h hs
  exact⟨s',G',_,hs',hB,results_tmp hrr _ _ _,hv⟩
 ·rename_i hne
  split at h
  ·rename_i l
   obtain⟨s',G,ts,e1,hs',hK,e2,hr,_⟩:=retL_ok h.2 hs
   refine⟨s',G,_,hs',hK,run_results e1 (fun e=> ?_) (by rw[e2];exact h.1) _ _, .tu l _ (fun j=>a.tmps.getD (ts.getD j 0) undef) (by simp[e2]) (fun j hj=> ?_) hr⟩
   ·obtain⟨t,rfl⟩:=List.length_eq_one_iff.1 e
    exact hne t e1
   ·have:j<ts.length:=by omega
    simp[List.getD_eq_getElem?_getD,this]
  ·exact h.elim
theorem fn_intro {f:FuncId} {fn:Func} {c:Code} {args:List V} {res:V} (hf:P.funcs[f]?=some fn) (hb:fn.body=some c) (hname:(fn.name== "runtime.NumGoroutine")=false) (hn:args.length≤fn.ntmps)
  (ho:okC fn.ntmps c=true) (hm:P.follows .mixedOrders=true) (hc:res.cl=true) (hG:SigOk P G)
  (h:vg P G c ⟨enOf 0 args,[],0⟩ ⟨RetP fn.results.toList res,RetP fn.results.toList res,[]⟩):Fn P G.J f false args res:=by
 refine⟨⟨fn,hf,by simp[hb],hname⟩,fun w F vs hI hF hlen hvs=> ?_⟩
 refine calls_of_wp hf hb ?_
 have fin: ∀(s:S) (F':Cx) (a:Act) (w':World),RetP fn.results.toList res s→Sat ⟨G.J,w,F,fn.ntmps,fun _=>False, .bare F⟩ s F' a w'→a.defers=[]∧ ∃v,(results fn a.tmps).run P w'= .ok v w'∧ ∃v',Ending.returned v= .returned v'∧Ext w w'∧Rep w' (.bare fun b=>F b∨(false=true∧b<w.heap.size)) res v':=fun s F' a w' h hs=>by
  obtain⟨s',G',v,hs',_,hrun,hv⟩:=RetK_ok (P:=P) h hs
  have hext:Ext w w':=⟨hs.ev.os,hs.ev.tape,hs.ev.output,hs.ev.size,fun b hb=>hs.ev.block b hb (fun h=>h)⟩
  refine⟨hs.df,v,hrun,v,rfl,hext,(hv.bare hc).of_bare fun b hb=> .inl (hs'.fold b ?_)⟩
  rcases hb with hb|⟨hb,_⟩
  ·exact hb
  ·cases hb
 refine vg_ok (x:=⟨G.J,w,F,fn.ntmps,fun _=>False, .bare F⟩) hG rfl (fun _ _=>⟨rfl,rfl⟩) hm c _ _ _ (Cx.bare F) _ w ho h ⟨fun s F' a w' h hs=> ?_,fun s F' a w' h hs=> ?_,fun id k hk=>by simp[exGet] at hk⟩ ?_
 ·exact fin s F' a w' h hs
 ·exact fin s F' a w' h hs
 ·refine⟨Ev.refl _ w,fun t v ht=> ?_,rfl,by simp;omega,fun b hb=>hb,hF,fun k _=>⟨rfl,rfl⟩,fun k ob hk=> ?_,fun k ob g hk=> ?_,fun k ob g hk=> ?_,fun k k' ob ob' g hk=> ?_,fun k y hk=>by simp[Cx.bare] at hk,Cx.Le.refl w _,hI⟩
  ·obtain⟨_,h1⟩:=enOf_get args 0 t v ht
   simp only[Nat.sub_zero] at h1
   have hlt:t<args.length:=(List.getElem?_eq_some_iff.1 h1).1
   have hlt':t<vs.length:=by omega
   refine⟨by simp;omega,?_⟩
   have hg:vs[t]?=some vs[t]:=List.getElem?_eq_getElem hlt'
   have:=hvs t v _ h1 hg
   simpa [Array.getD_eq_getD_getElem?,Array.getElem?_append,hlt'] using this
  all_goals
   cases k<;>simp[Hget,Hroot,Hchild] at hk
theorem fnH_intro {f:FuncId} {fn:Func} {c:Code} {args:List V} {pre post:List (Nat×Ob)} {nx nx':Nat} {res:V} (hf:P.funcs[f]?=some fn) (hb:fn.body=some c) (hname:(fn.name== "runtime.NumGoroutine")=false) (hn:args.length≤fn.ntmps)
  (ho:okC fn.ntmps c=true) (hm:P.follows .mixedOrders=true) (hG:SigOk P G) (hGb:G.b=nx)
  (h:vg P G c ⟨enOf 0 args,pre,nx⟩ ⟨RenC G.b (RetH fn.results.toList res post nx'),RenC G.b (RetH fn.results.toList res post nx'),[]⟩):FnH P G.J f args pre nx res post nx':=by
 refine⟨⟨fn,hf,by simp[hb],hname⟩,fun w F vs hM hlen hvs=> ?_⟩
 refine calls_of_wp hf hb ?_
 have fin: ∀(s:S) (F':Cx) (a:Act) (w':World),RenC G.b (RetH fn.results.toList res post nx') s→Sat ⟨G.J,w,fun b=>F.F b∧ ¬Blk F pre b,fn.ntmps,Blk F pre,F⟩ s F' a w'→
   a.defers=[]∧ ∃v,(results fn a.tmps).run P w'= .ok v w'∧ ∃v' G1,Ending.returned v= .returned v'∧Ev (Blk F pre) w w'∧Cx.Le w F G1∧(∀b,F.F b→ ¬Blk F pre b→G1.F b)∧Mem G.J post nx' G1 w'∧(∀k ob g,Hget post k=some ob→G1.blk k ob=some g→Blk F pre g∨w.heap.size≤g)∧Rep w' G1 res v':=fun s F' a w' h hs=>by
  obtain⟨s,F',hs,h⟩: ∃s F',Sat ⟨G.J,w,fun b=>F.F b∧ ¬Blk F pre b,fn.ntmps,Blk F pre,F⟩ s F' a w'∧RetH fn.results.toList res post nx' s:=by
   rcases h with h|⟨σ,t,h1,h2⟩
   ·exact⟨s,F',hs,h⟩
   ·obtain⟨F2,hs2⟩:=hs.ren (fun k hk=>hM.nx k (by omega)) h1
    exact⟨t,F2,hs2,h2⟩
  obtain⟨s',G',v,hs',hB,hrun,hv⟩:=RetK_ok (P:=P) h hs
  refine⟨hs.df,v,hrun,v,G',rfl,hs'.ev,hs'.le,fun b h1 h2=>hs'.fold b ⟨h1,h2⟩,⟨hs'.flt,fun k hk=>hs'.nx k (Nat.le_trans hB.2 hk),fun m o ho=>hs'.own m o (subH_get hB.1 m o ho),fun m m' o o' g ho ho'=>hs'.sep m m' o o' g (subH_get hB.1 m o ho) (subH_get hB.1 m' o' ho'),hs'.wsl,hs'.inv⟩,fun k ob g hk hg=>(hs'.own2 k ob g (subH_get hB.1 k ob hk) hg).symm,hv⟩
 refine vg_ok (x:=⟨G.J,w,fun b=>F.F b∧ ¬Blk F pre b,fn.ntmps,Blk F pre,F⟩) hG rfl (fun k hk=>hM.nx k (by omega)) hm c _ _ _ F _ w ho h ⟨fun s F' a w' h hs=> ?_,fun s F' a w' h hs=> ?_,fun id k hk=>by simp[exGet] at hk⟩ ?_
 ·exact fin s F' a w' h hs
 ·exact fin s F' a w' h hs
 ·refine⟨Ev.refl _ w,fun t v ht=> ?_,rfl,by simp;omega,fun b hb=>hb.1,hM.flt,hM.nx,hM.own,fun k ob g hk hg=> .inr ⟨k,ob,hk,hg⟩,fun k ob g hk hg hF=>hF.2 ⟨k,ob,hk,hg⟩,hM.sep,hM.wsl,Cx.Le.refl w _,hM.inv⟩
  obtain⟨_,h1⟩:=enOf_get args 0 t v ht
  simp only[Nat.sub_zero] at h1
  have hlt:t<args.length:=(List.getElem?_eq_some_iff.1 h1).1
  have hlt':t<vs.length:=by omega
  refine⟨by simp;omega,?_⟩
  have hg:vs[t]?=some vs[t]:=List.getElem?_eq_getElem hlt'
  have:=hvs t v _ h1 hg
  simpa [Array.getD_eq_getD_getElem?,Array.getElem?_append,hlt'] using this
def chkFn (P:Program) (fn:Func) (c:Code) (n:Nat):Bool:= !(fn.name== "runtime.NumGoroutine")&&(Nat.ble n fn.ntmps&&(okC fn.ntmps c&&P.follows .mixedOrders))
theorem chkFn_ok {fn:Func} {c:Code} {n:Nat} (h:chkFn P fn c n=true):(fn.name== "runtime.NumGoroutine")=false∧n≤fn.ntmps∧okC fn.ntmps c=true∧P.follows .mixedOrders=true:=by
 unfold chkFn at h
 simp only[Bool.and_eq_true,Bool.not_eq_true'] at h
 exact⟨h.1,Nat.le_of_ble_eq_true h.2.1,h.2.2.1,h.2.2.2⟩
theorem fnI {f:FuncId} {fn:Func} {c:Code} {args:List V} {res:V} (hf:P.funcs[f]?=some fn) (hb:fn.body=some c) (hk:chkFn P fn c args.length=true) (hc:res.cl=true) (hG:SigOk P G)
  (h:vg P G c ⟨enOf 0 args,[],0⟩ ⟨RetP fn.results.toList res,RetP fn.results.toList res,[]⟩):Fn P G.J f false args res:=
 fn_intro hf hb (chkFn_ok hk).1 (chkFn_ok hk).2.1 (chkFn_ok hk).2.2.1 (chkFn_ok hk).2.2.2 hc hG h
theorem fnJ {f:FuncId} {fn:Func} {c:Code} {args:List V} {pre post:List (Nat×Ob)} {nx nx':Nat} {res:V} (hf:P.funcs[f]?=some fn) (hb:fn.body=some c) (hk:chkFn P fn c args.length=true) (hG:SigOk P G) (hGb:G.b=nx)
  (h:vg P G c ⟨enOf 0 args,pre,nx⟩ ⟨RenC G.b (RetH fn.results.toList res post nx'),RenC G.b (RetH fn.results.toList res post nx'),[]⟩):FnH P G.J f args pre nx res post nx':=
 fnH_intro hf hb (chkFn_ok hk).1 (chkFn_ok hk).2.1 (chkFn_ok hk).2.2.1 (chkFn_ok hk).2.2.2 hG hGb h
end
set_option linter.unusedSimpArgs false
def retW (v:V) (s:S) (res:V) (K:S→Prop):Prop:=
 match res.cl with
 |true=>obs (fz s.h v).2 (Veq (fz s.h v).1 res∧K {s with h:=HdelK s.h (rts v)})
 |false=>v=res∧K s
def cellR (P:Program) (s:S) (t:Nat) (ty:TypeId):Option (V×List Prop):=
 match s.e.get t with
 |some (.op k j)=>vload P s.h ty (.op k j)
 |_=>none
def RetC (P:Program) (rs:List ResultVar) (res:V) (K:S→Prop) (s:S):Prop:=
 match rs with
 |[.cell t ty]=>match cellR P s t ty with
  |some (v,l)=>obs l (retW v s res K)
  |none=>False
 |[.cell t ty, .tmp u]=>match res with
  | .tu [r1,r2]=>match cellR P s t ty with
   |some (v,l)=>obs l (retW v s r1 fun s'=>retOne s' u r2 K)
   |none=>False
  |_=>False
 |rs=>RetK rs res K s
section
variable {P:Program} {G:Sig}
theorem retW_ok {x:Fx} {F:Cx} {w:World} {a:Act} {s:S} {v res:V} {y:Value} {K:S→Prop} (h:retW v s res K) (hs:Sat x s F a w) (hr:Rep w F v y):
  ∃s' G,Sat x s' G a w∧K s'∧Rep w G res y∧ ∀v y,Rep w F v y→Rep w G v y:=by
 unfold retW at h
 split at h
 ·rw[obs_iff] at h
  obtain⟨hl,hq,hK⟩:=h
  exact⟨_,_,hs.less (rts v),hK,veq_rep hq (fz_ok hs hr hl fun k hk=>hk),fun v y h=>h.le (less_le F s.h _ w)⟩
 ·obtain⟨rfl,hK⟩:=h
  exact⟨s,F,hs,hK,hr,fun _ _ h=>h⟩
theorem cellR_ok {x:Fx} {F:Cx} {w:World} {a:Act} {s:S} {t:Nat} {ty:TypeId} {v:V} {l:List Prop} (h:cellR P s t ty=some (v,l)) (hl:AllP l) (hs:Sat x s F a w):
  ∃b j z,a.tmps.getD t undef= .pointer (some ⟨b,j,none⟩)∧(loadVar ty ⟨b,j,none⟩).run P w= .ok z w∧Rep w F v z:=by
 unfold cellR at h
 split at h
 ·rename_i k j hk
  have hp:=(hs.env t _ hk).2
  obtain⟨b,hO,hb⟩:=rep_op hp
  obtain⟨z,hz,hr⟩:=vload_ok (P:=P) (rw:=true) (js:=[]) hs.own h hl (ldOk_all _ _ _) hp
  have:=hr w (Kp.of_ext hs.own (Ext.refl w))
  rw[hb] at this
  refine⟨b,j,z,hb,?_,hz⟩
  simpa [Instr.loadAt,Instr.sureAddr] using this
 ·cases h
theorem RetC_ok {x:Fx} {F:Cx} {w:World} {a:Act} {s:S} {fn:Func} {res:V} {K:S→Prop} (h:RetC P fn.results.toList res K s) (hs:Sat x s F a w):
  ∃s' G v,Sat x s' G a w∧K s'∧(results fn a.tmps).run P w= .ok v w∧Rep w G res v:=by
 have hres: ∀(l:List ResultVar),fn.results.toList=l→fn.results=l.toArray:=fun l hl=>by rw[←hl]
 unfold RetC at h
 split at h
 ·rename_i t ty hr
  have hrr:=hres _ hr
  split at h
  ·rename_i v l hv
   rw[obs_iff] at h
   obtain⟨b,j,z,hb,hz,hrep⟩:=cellR_ok hv h.1 hs
   obtain⟨s',G',hs',hB,hv',_⟩:=retW_ok h.2 hs hrep
   refine⟨s',G',z,hs',hB,?_,hv'⟩
   rw[Array.getD_eq_getD_getElem?] at hb
   simp[results,hrr,hb,asAddr,hz]
  ·exact h.elim
 ·rename_i t ty u hr
  have hrr:=hres _ hr
  split at h
  ·rename_i r1 r2
   split at h
   ·rename_i v l hv
    rw[obs_iff] at h
    obtain⟨b,j,z,hb,hz,hrep⟩:=cellR_ok hv h.1 hs
    obtain⟨s1,G1,hs1,hK,hv1,hm1⟩:=retW_ok h.2 hs hrep
    obtain⟨s2,G2,hs2,hK2,hv2,hm2⟩:=retOne_ok hK hs1
    refine⟨s2,G2, .tuple #[z,a.tmps.getD u undef],hs2,hK2,?_, .tu _ _ (fun j=>if j=0 then z else a.tmps.getD u undef) rfl (fun j hj=> ?_) (fun j hj=> ?_)⟩
    ·rw[Array.getD_eq_getD_getElem?] at hb
     simp[results,hrr,hb,asAddr,hz]
    ·have:j=0∨j=1:=by simp at hj;omega
     rcases this with rfl|rfl<;>rfl
    ·have:j=0∨j=1:=by simp at hj;omega
     rcases this with rfl|rfl
     ·exact hm2 _ _ hv1
     ·exact hv2
   ·exact h.elim
  ·exact h.elim
 ·exact RetK_ok h hs
theorem fnH_introR {f:FuncId} {fn:Func} {c:Code} {args:List V} {pre post:List (Nat×Ob)} {nx nx':Nat} {res:V} (R:S→Prop) (hR: ∀(x:Fx) (s:S) (F:Cx) (a:Act) (w:World),R s→Sat x s F a w→ ∃s' G v,Sat x s' G a w∧Back post nx' s'∧(results fn a.tmps).run P w= .ok v w∧Rep w G res v) (hf:P.funcs[f]?=some fn) (hb:fn.body=some c) (hname:(fn.name== "runtime.NumGoroutine")=false) (hn:args.length≤fn.ntmps)
  (ho:okC fn.ntmps c=true) (hm:P.follows .mixedOrders=true) (hG:SigOk P G) (hGb:G.b=nx)
  (h:vg P G c ⟨enOf 0 args,pre,nx⟩ ⟨RenC G.b R,RenC G.b R,[]⟩):FnH P G.J f args pre nx res post nx':=by
 refine⟨⟨fn,hf,by simp[hb],hname⟩,fun w F vs hM hlen hvs=> ?_⟩
 refine calls_of_wp hf hb ?_
 have fin: ∀(s:S) (F':Cx) (a:Act) (w':World),RenC G.b R s→Sat ⟨G.J,w,fun b=>F.F b∧ ¬Blk F pre b,fn.ntmps,Blk F pre,F⟩ s F' a w'→
   a.defers=[]∧ ∃v,(results fn a.tmps).run P w'= .ok v w'∧ ∃v' G1,Ending.returned v= .returned v'∧Ev (Blk F pre) w w'∧Cx.Le w F G1∧(∀b,F.F b→ ¬Blk F pre b→G1.F b)∧Mem G.J post nx' G1 w'∧(∀k ob g,Hget post k=some ob→G1.blk k ob=some g→Blk F pre g∨w.heap.size≤g)∧Rep w' G1 res v':=fun s F' a w' h hs=>by
  obtain⟨s,F',hs,h⟩: ∃s F',Sat ⟨G.J,w,fun b=>F.F b∧ ¬Blk F pre b,fn.ntmps,Blk F pre,F⟩ s F' a w'∧R s:=by
   rcases h with h|⟨σ,t,h1,h2⟩
   ·exact⟨s,F',hs,h⟩
   ·obtain⟨F2,hs2⟩:=hs.ren (fun k hk=>hM.nx k (by omega)) h1
    exact⟨t,F2,hs2,h2⟩
  obtain⟨s',G',v,hs',hB,hrun,hv⟩:=hR _ _ _ _ _ h hs
  refine⟨hs.df,v,hrun,v,G',rfl,hs'.ev,hs'.le,fun b h1 h2=>hs'.fold b ⟨h1,h2⟩,⟨hs'.flt,fun k hk=>hs'.nx k (Nat.le_trans hB.2 hk),fun m o ho=>hs'.own m o (subH_get hB.1 m o ho),fun m m' o o' g ho ho'=>hs'.sep m m' o o' g (subH_get hB.1 m o ho) (subH_get hB.1 m' o' ho'),hs'.wsl,hs'.inv⟩,fun k ob g hk hg=>(hs'.own2 k ob g (subH_get hB.1 k ob hk) hg).symm,hv⟩
 refine vg_ok (x:=⟨G.J,w,fun b=>F.F b∧ ¬Blk F pre b,fn.ntmps,Blk F pre,F⟩) hG rfl (fun k hk=>hM.nx k (by omega)) hm c _ _ _ F _ w ho h ⟨fun s F' a w' h hs=> ?_,fun s F' a w' h hs=> ?_,fun id k hk=>by simp[exGet] at hk⟩ ?_
 ·exact fin s F' a w' h hs
 ·exact fin s F' a w' h hs
 ·refine⟨Ev.refl _ w,fun t v ht=> ?_,rfl,by simp;omega,fun b hb=>hb.1,hM.flt,hM.nx,hM.own,fun k ob g hk hg=> .inr ⟨k,ob,hk,hg⟩,fun k ob g hk hg hF=>hF.2 ⟨k,ob,hk,hg⟩,hM.sep,hM.wsl,Cx.Le.refl w _,hM.inv⟩
  obtain⟨_,h1⟩:=enOf_get args 0 t v ht
  simp only[Nat.sub_zero] at h1
  have hlt:t<args.length:=(List.getElem?_eq_some_iff.1 h1).1
  have hlt':t<vs.length:=by omega
  refine⟨by simp;omega,?_⟩
  have hg:vs[t]?=some vs[t]:=List.getElem?_eq_getElem hlt'
  have:=hvs t v _ h1 hg
  simpa [Array.getD_eq_getD_getElem?,Array.getElem?_append,hlt'] using this
theorem fnH_introC {f:FuncId} {fn:Func} {c:Code} {args:List V} {pre post:List (Nat×Ob)} {nx nx':Nat} {res:V} (hf:P.funcs[f]?=some fn) (hb:fn.body=some c) (hname:(fn.name== "runtime.NumGoroutine")=false) (hn:args.length≤fn.ntmps)
  (ho:okC fn.ntmps c=true) (hm:P.follows .mixedOrders=true) (hG:SigOk P G) (hGb:G.b=nx)
  (h:vg P G c ⟨enOf 0 args,pre,nx⟩ ⟨RenC G.b (RetC P fn.results.toList res (Back post nx')),RenC G.b (RetC P fn.results.toList res (Back post nx')),[]⟩):FnH P G.J f args pre nx res post nx':=
 fnH_introR _ (fun _ _ _ _ _ h hs=>RetC_ok h hs) hf hb hname hn ho hm hG hGb h
theorem fnC {f:FuncId} {fn:Func} {c:Code} {args:List V} {pre post:List (Nat×Ob)} {nx nx':Nat} {res:V} (hf:P.funcs[f]?=some fn) (hb:fn.body=some c) (hk:chkFn P fn c args.length=true) (hG:SigOk P G) (hGb:G.b=nx)
  (h:vg P G c ⟨enOf 0 args,pre,nx⟩ ⟨RenC G.b (RetC P fn.results.toList res (Back post nx')),RenC G.b (RetC P fn.results.toList res (Back post nx')),[]⟩):FnH P G.J f args pre nx res post nx':=
 fnH_introC hf hb (chkFn_ok hk).1 (chkFn_ok hk).2.1 (chkFn_ok hk).2.2.1 (chkFn_ok hk).2.2.2 hG hGb h
end
section
variable {P:Program} {G:Sig}
theorem fnH_introN {f:FuncId} {fn:Func} {c:Code} {args:List V} {pre post:List (Nat×Ob)} {nx nx':Nat} {res:V} (hf:P.funcs[f]?=some fn) (hb:fn.body=some c) (hname:(fn.name== "runtime.NumGoroutine")=false) (hn:args.length≤fn.ntmps)
  (ho:okC fn.ntmps c=true) (hm:P.follows .mixedOrders=true) (hG:SigOk P G) (hGb:G.b=nx)
  (h:vg P G c ⟨enOf 0 args,pre,nx⟩ ⟨RenC G.b (fun s=> ∃ad t,AdSub ad s t∧RetH fn.results.toList res post nx' t),RenC G.b (fun s=> ∃ad t,AdSub ad s t∧RetH fn.results.toList res post nx' t),[]⟩):FnH P G.J f args pre nx res post nx':=by
 refine fnH_introR (fun s=> ∃ad t,AdSub ad s t∧RetH fn.results.toList res post nx' t) (fun x s F a w h hs=> ?_) hf hb hname hn ho hm hG hGb h
 obtain⟨ad,t,h1,h2⟩:=h
 obtain⟨G1,hs1⟩:=hs.adsub h1
 exact RetK_ok h2 hs1
end
def nums (k:IntKind) (ns:List Int):List V:=ns.map fun n=> .val (.int k n)
def strs (ss:List (List UInt8)):List V:=ss.map .str
section
variable (k:IntKind) (ns ms:List Int) (ss rs:List (List UInt8)) (i j:Nat) (n d:Int) (s e:List UInt8)
theorem nums_len:(nums k ns).length=ns.length:=by simp[nums]
theorem nums_get:(nums k ns).getD i (.val (.int k d))= .val (.int k (ns.getD i d)):=by
 simp only[nums,List.getD_eq_getElem?_getD,List.getElem?_map];cases ns[i]?<;>rfl
theorem nums_app:nums k ns++[.val (.int k n)]=nums k (ns++[n]):=by simp[nums]
theorem nums_apps:nums k ns++nums k ms=nums k (ns++ms):=by simp[nums]
theorem nums_set:(nums k ns).set i (.val (.int k n))=nums k (ns.set i n):=by simp[nums,List.map_set]
theorem nums_rep:List.replicate i (V.val (.int k n))=nums k (List.replicate i n):=by simp[nums]
theorem nums_take:(nums k ns).take i=nums k (ns.take i):=by simp[nums,List.map_take]
theorem nums_drop:(nums k ns).drop i=nums k (ns.drop i):=by simp[nums,List.map_drop]
theorem nums_er:(nums k ns).map er2=nums k ns:=by simp[nums,er2,er1]
theorem nums_cl:clL (nums k ns)=true:=by simp[clL_all,nums,V.cl]
theorem nums_sc:scL (nums k ns)=true:=by simp[scL_all,nums,V.sc]
theorem nums_ct:(nums k ns).all ct2=true:=by simp[nums,ct2,ct1,V.cl]
theorem strs_len:(strs ss).length=ss.length:=by simp[strs]
theorem strs_get:(strs ss).getD i (.str e)= .str (ss.getD i e):=by
 simp only[strs,List.getD_eq_getElem?_getD,List.getElem?_map];cases ss[i]?<;>rfl
theorem strs_app:strs ss++[.str s]=strs (ss++[s]):=by simp[strs]
theorem strs_apps:strs ss++strs rs=strs (ss++rs):=by simp[strs]
theorem strs_set:(strs ss).set i (.str s)=strs (ss.set i s):=by simp[strs,List.map_set]
theorem strs_take:(strs ss).take i=strs (ss.take i):=by simp[strs,List.map_take]
theorem strs_drop:(strs ss).drop i=strs (ss.drop i):=by simp[strs,List.map_drop]
theorem strs_er:(strs ss).map er2=strs ss:=by simp[strs,er2,er1]
theorem strs_cl:clL (strs ss)=true:=by simp[clL_all,strs,V.cl]
theorem strs_sc:scL (strs ss)=true:=by simp[scL_all,strs,V.sc]
theorem strs_ct:(strs ss).all ct2=true:=by simp[strs,ct2,ct1,V.cl]
end
theorem Fn.of_H {P:Program} {J:Inv} {f:FuncId} {args:List V} {nx:Nat} {res r:V} {post:List (Nat×Ob)} (h:FnH P J f args [] 0 res post nx) (hr:(fz post res).1=r) (hl:AllP (fz post res).2) (hc:r.cl=true) (hs0:res.sc=true) (hp:scH post=true):Fn P J f true args r:=by
 refine⟨h.1,fun w F vs hI hF hlen hvs=> ?_⟩
 have hm:Mem J [] 0 (.bare F) w:=⟨hF,fun _ _=>⟨rfl,rfl⟩,fun m o hm=>by cases m<;>simp[Hget,Hroot,Hchild] at hm,fun m m' o o' g hm=>by cases m<;>simp[Hget,Hroot,Hchild] at hm,fun k y hk=>by simp[Cx.bare] at hk,hI⟩
 refine(h.2 w (.bare F) vs hm hlen hvs).mono fun e w' ⟨v,G,he,hev,hle,hkeep,hmem,hown,hrep⟩=> ?_
 have hnB: ∀b,¬Blk (Cx.bare F) [] b:=fun b ⟨m,ob,hm,_⟩=>by cases m<;>simp[Hget,Hroot,Hchild] at hm
 have hx:Ext w w':=⟨hev.os,hev.tape,hev.output,hev.size,fun b hb=>hev.block b hb (hnB b)⟩
 let J1:Inv:=⟨fun _ _=>True,fun _ _ _ _=>trivial,⟨fun _=>none,none,fun _ _ _=>none⟩,(fun _ _ _ _ _ h=>by cases h),fun g v h=>by cases h⟩
 let G1:Cx:=⟨fun b=>G.F b∨b<w.heap.size,G.O,G.W⟩
 have hsat:Sat ⟨J1,w',fun _=>False,0,fun _=>True,G1⟩ ⟨[],post,nx⟩ G1 {tmps:= #[],defers:=[]} w':=
  ⟨Ev.refl _ _,fun t v ht=>by simp[En.get] at ht,rfl,rfl,fun b hb=>hb.elim,fun b hb=>hb.elim (hmem.flt b) fun h=>Nat.lt_of_lt_of_le h hev.size,hmem.nx,
   fun m o hm=>scO_free (hmem.own m o hm) (scH_get hp hm) (fun _ _ h=>h) (fun _ _ h=>h) fun b hb=> .inl hb,fun _ _ _ _ _=> .inr trivial,fun _ _ _ _ _ h=>h,
   fun m m' o o' g hm hm' hg hg'=>hmem.sep m m' o o' g hm hm' (by cases o<;>exact hg) (by cases o'<;>exact hg'),hmem.wsl,Cx.Le.refl _ _,trivial⟩
 have hv:Rep w' G1 res v:=hrep.free (fun _ _ h=>h) (fun _ _ h=>h) hs0
 have h1:=fz_ok hsat (ks:=rts res) hv hl fun k hk=>hk
 rw[hr] at h1
 refine⟨v,he,hx,(h1.bare hc).of_bare fun b hb=> .inl ⟨.inr ?_,fun⟨m,ob,_,h2,h3⟩=> ?_⟩⟩
 ·rcases hb with hb|hb
  ·exact hF b hb
  ·exact hb.2
 ·have hlt:b<w.heap.size:=by
   rcases hb with hb|hb
   ·exact hF b hb
   ·exact hb.2
  rcases hown m ob b h2 (by cases ob<;>exact h3) with h|h
  ·exact hnB b h
  ·omega
end Go.Proofs.YtfengpdaocgcnaaGreatDoor
