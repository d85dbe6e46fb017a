/- The PEM text of a key. errors.Is at the program's own errors. Results: a key and an error, read-only. Numbers and identifiers, there and back. Plain Lean. -/
import Derived.Test.YtfengpdaocgcnaaGreatDoorQ38
import Derived.Test.YtfengpdaocgcnaaGreatDoorQ39
import Derived.Test.YtfengpdaocgcnaaGreatDoorQ17
import Derived.LaidEql
import Derived.Stop.Asserts
import Derived.RowKitTokens
import Derived.Test.YtfengpdaocgcnaaGreatDoorQ33
import Derived.Test.YtfengpdaocgcnaaGreatDoorQ35
namespace Go.Proofs.YtfengpdaocgcnaaGreatDoor
open Nat (reduceMul reduceLeDiff reduceEqDiff reduceLT reduceAdd reduceSub reduceDiv)
open Int (reduceToNat reducePow)
open Go.RowKit
set_option linter.unusedSimpArgs false
set_option maxRecDepth 100000
def beginN:List UInt8:=[45,45,45,45,45,66,69,71,73,78,32,80,85,66,76,73,67,32,75,69,89,45,45,45,45,45,10]
def endN:List UInt8:=[45,45,45,45,45,69,78,68,32,80,85,66,76,73,67,32,75,69,89,45,45,45,45,45,10]
def pemL (s:List UInt8):List UInt8:=if _h:s=[] then [] else s.take 64++10::pemL (s.drop 64)
termination_by s.length
decreasing_by have:=List.length_pos_iff.2 _h;simp only[List.length_drop];omega
theorem pemL_nil:pemL []=[]:=by rw[pemL,dif_pos rfl]
theorem pemL_ne {s:List UInt8} (h:s≠[]):pemL s=s.take 64++10::pemL (s.drop 64):=by rw[pemL,dif_neg h]
def pemF (b:List UInt8):List UInt8:=beginN++(pemL (encF stdS b)++endN)
def Ky.pem (k:Ky):List UInt8×Int:=if k.pr.2=0 then (pemF k.pr.1,0) else ([],k.pr.2)
def BMh:FuncId→List V→List (Nat×Ob)→Nat→HR:=fun f args h nx=>tabH [(35,fun h nx=>hO fun k=>hS fun s=>hD (hU h k
  (hF [k<nx,s.length≤140737488355328] [(k, .box 63 bu0)] (.tu [.i s.length, .val .nilIface]) [(k, .box 63 (bu1 k nx)),(nx, .row 5 (.by s))] (nx+1))
  fun m l=>hF [k≠m,k<nx,m<nx,l.length+s.length≤140737488355328] [(k, .box 63 (bu1 k m)),(m, .row 5 (.by l))] (.tu [.i s.length, .val .nilIface]) [(k, .box 63 (bu1 k nx)),(nx, .row 5 (.by (l++s)))] (nx+1))),
 (37,fun h nx=>hO fun k=>hD (hU h k none
  fun m l=>hF [l≠[],k≠m] [(k, .box 63 (bu1 k m)),(m, .row 5 (.by l))] (.str l) [] nx))] noH f args h nx
theorem BMh_ok (J:Inv):HTab Tryz.prog J BMh:=tabH_ok (.c (fun _ nx=> .o fun k=> .s fun s=> .d (.U (.F fun⟨c0,c1,_⟩=>write0_fn J nx k s c0 c1) fun m l=> .F fun⟨c0,c1,c2,c3,_⟩=>write1_fn J nx k m l s c0 c1 c2 c3)) (.c (fun _ nx=> .o fun k=> .d (.U .no fun m l=> .F fun⟨c0,c1,_⟩=>str_fn J nx k m l c0 c1)) .n)) noH_ok
def BMaf:FuncId→List V→CR:=fun f args=>tab [(9,cK fun k=>cF [k.Ok] false (.tu [.by k.pr.1, .i k.pr.2])),
 (36,cY fun b=>cF [b.length≤16777216] false (.str (encF stdS b)))] noF f args
def BMa (J:Inv):Sig:=⟨J,sdf,BMaf,noH,0⟩
theorem BMa_ok (J:Inv) (hJ: ∀w F,J.I w F→JV.I w F) (hE:EdT J):SigOk Tryz.prog (BMa J):= .plain (tab_ok (.c (.k fun k=> .z fun⟨c0,_⟩=>sprint_fn J hJ hE k c0)<|
 .c (.y fun b=> .z fun⟨c0,_⟩=>encodeStd_fn J b c0)<| .n) noF_ok)
def BM (J:Inv):Sig:=⟨J,sdf,BMaf,BMh,0⟩
theorem BM_ok (J:Inv) (hJ: ∀w F,J.I w F→JV.I w F) (hE:EdT J):SigOk Tryz.prog (BM J):=⟨(BMa_ok J hJ hE).1,BMh_ok J⟩
theorem pr_len (k:Ky):k.pr.1.length≤65536:=by
 unfold Ky.pr
 split
 ·exact printF_len _
 ·exact Nat.zero_le _
theorem enc_len {b:List UInt8} (h:b.length≤65536):(encF stdS b).length≤100000:=by
 have hl:=spell_len stdS b
 unfold encF
 rw[List.length_append,List.length_replicate,hl]
 split<;>omega
theorem pem0_own (J:Inv) (hJ: ∀w F,J.I w F→JV.I w F) (hE:EdT J) (k:Ky) (hk:k.Ok) (h:k.pr.2≠0):FnH Tryz.prog J 10 [k.V] [] 0 (.tu [.str [], .i k.pr.2]) [] 12:=by
 rcases k with ⟨kty,crv,s,n,e,x,y⟩
 refine fnJ Tryz.func10 rfl (by kernel_rfl) (BM_ok J hJ hE) rfl ?_
 unfold Tryz.f10
 have e1:((Ky.mk kty crv s n e x y).pr.2==0)=false:=beq_eq_false_iff_ne.2 h
 simp only[↓bD,bQ,reduceEqDiff,reduceLT,reduceAdd,↓reduceIte,BM,BMaf,Ky.V,keyV,cK,keyW,byN,e1]
 refine⟨hk,RenC.skip ?_⟩
 simp only[bQ,reduceLeDiff,reduceEqDiff,reduceAdd,↓reduceIte]
theorem pem1_own (J:Inv) (hJ: ∀w F,J.I w F→JV.I w F) (hE:EdT J) (k:Ky) (hk:k.Ok) (h:k.pr.2=0):FnH Tryz.prog J 10 [k.V] [] 0 (.tu [.str (pemF k.pr.1), .i 0]) [] 3:=by
 have hp:=pr_len k
 have hel:=enc_len hp
 have hfin:pemF k.pr.1=beginN++pemL (encF stdS k.pr.1)++endN:=by unfold pemF;rw[List.append_assoc]
 rcases k with ⟨kty,crv,s,n,e,x,y⟩
 refine fnJ Tryz.func10 rfl (by kernel_rfl) (BM_ok J hJ hE) rfl ?_
 unfold Tryz.f10
 have n1:[45,45,45,45,45,66,69,71,73,78,32,80,85,66,76,73,67,32,75,69,89,45,45,45,45,45,10]=beginN:=rfl
 have n2:[45,45,45,45,45,69,78,68,32,80,85,66,76,73,67,32,75,69,89,45,45,45,45,45,10]=endN:=rfl
 simp only[↓bD,bQ,reduceEqDiff,reduceLT,reduceAdd,↓reduceIte,reduceCtorEq,BM,BMaf,BMh,hU.eq_1,bu0,bu1,Ky.V,keyV,cK,keyW,byN,h,n1]
 generalize (Ky.mk kty crv s n e x y).pr.1=b at hp hel hfin⊢
 refine⟨hk,by decide,by omega,?_⟩
 refine LoopC.intro (α:=List UInt8×List UInt8×Nat) (fun y=>y.1++pemL y.2.1=beginN++pemL (encF stdS b)∧y.1.length+2*y.2.1.length≤300000∧1<y.2.2) (fun y=>⟨[(7, .str y.2.1),(6, .op 1 0)],[(1, .box 63 (.st [.op 1 0, .ro (.r y.2.2)])),(y.2.2, .row 5 (.by y.1))],y.2.2+1⟩) (fun y=>y.2.1.length) (beginN,encF stdS b,2) ⟨rfl,by show beginN.length+2*(encF stdS b).length≤300000;have:beginN.length=27:=rfl;omega,by show 1<2;omega⟩ ?_ ?_
 ·simp only[bQ,reduceLeDiff,reduceEqDiff,reduceAdd,↓reduceIte]
  skip
 ·rintro⟨acc,rest,r⟩ ⟨h1,h2,h3⟩
  simp only at h1 h2 h3
  have r1:(r=1)=False:=eq_false (by omega)
  have r2:(1=r)=False:=eq_false (by omega)
  have r3:(r+1=1)=False:=eq_false (by omega)
  have r4:(1=r+1)=False:=eq_false (by omega)
  have r5:(r=0)=False:=eq_false (by omega)
  simp only[↓bD,bQ,reduceEqDiff,reduceAdd,↓reduceIte,BMh,hU.eq_1,bu0,bu1,n2,r1,r2,r3,r4]
  have em:imin 64 (rest.length:Int)=((min 64 rest.length:Nat):Int):=by rw[imin_eq];omega
  have hcl:(cutL rest 0 (min 64 rest.length)).length=min 64 rest.length:=by rw[cutL_eq];simp
  rw[em,Int.toNat_natCast]
  refine⟨fun h=> ?_,fun h=> ?_⟩
  ·have hne:rest≠[]:=by simpa using h
   have hpos:=List.length_pos_iff.2 hne
   refine⟨by omega,by omega,by omega,by omega,by omega,by rw[List.length_append,hcl];simp only[List.length_cons,List.length_nil];omega,by omega,by omega,Again.intro (acc++(cutL rest 0 (min 64 rest.length)++[10]),rest.drop 64,r+1) ⟨?_,?_,by show 1<r+1;omega⟩ (by show(rest.drop 64).length<rest.length;rw[List.length_drop];omega) ?_⟩
   ·show acc++(cutL rest 0 (min 64 rest.length)++[10])++pemL (rest.drop 64)=_
    rw[←h1,pemL_ne hne,cutL_eq,List.drop_zero]
    have:rest.take (min 64 rest.length)=rest.take 64:=by rw[Nat.min_comm,←List.take_take];exact List.take_of_length_le (by rw[List.length_take];omega)
    rw[this]
    simp
   ·show(acc++(cutL rest 0 (min 64 rest.length)++[10])).length+2*(rest.drop 64).length≤300000
    rw[List.length_append,List.length_append,hcl,List.length_drop]
    simp only[List.length_cons,List.length_nil]
    omega
   ·simp only[bQ,reduceLeDiff,reduceEqDiff,reduceAdd,↓reduceIte,r4]
    refine⟨?_,Nat.le_refl _⟩
    rw[cutL_eq]
    split
    ·exact List.take_of_length_le (by rw[List.length_drop];omega)
    ·rw[Nat.sub_self,List.take_zero,List.drop_eq_nil_iff.2 (by omega)]
  ·obtain rfl:rest=[]:=by simpa using h
   rw[pemL_nil,List.append_nil] at h1
   subst h1
   refine⟨by omega,by omega,by have:endN.length=25:=rfl;omega,by simp[endN],RenC.intro [] ⟨[(2, .str (pemF b)),(3, .i 0)],[],0⟩ ?_ ?_⟩
   ·rw[hfin]
    simp only[bQ,reduceLeDiff,reduceEqDiff,↓reduceIte]
    skip
   ·simp only[bQ,reduceLeDiff,reduceEqDiff,reduceAdd,↓reduceIte]
    skip
theorem spem_fn (J:Inv) (hJ: ∀w F,J.I w F→JV.I w F) (hE:EdT J) (k:Ky) (hk:k.Ok):Fn Tryz.prog J 10 false [k.V] (.tu [.str k.pem.1, .i k.pem.2]):=by
 by_cases h:k.pr.2=0
 ·have e:k.pem=(pemF k.pr.1,0):=by unfold Ky.pem;rw[if_pos h]
  rw[e];exact Fn.of_plain (pem1_own J hJ hE k hk h) rfl
 ·have e:k.pem=([],k.pr.2):=by unfold Ky.pem;rw[if_neg h]
  rw[e];exact Fn.of_plain (pem0_own J hJ hE k hk h) rfl
open Go.RowKit Go.Extern.Stop Go.Stop Go.Extern
theorem isTypeOf (v:Value) (w:World):(Extern.ReflectliteType.typeOf #[.iface 28 v]).run Tryz.prog w= .ok (.iface 172 (.agg #[.pointer (some ⟨12,28,none⟩)])) w:=by kernel_rfl
def cmpX:Array Value→Sem Value:=Extern.ReflectliteType.method fun t=>do Extern.Rtype.noPackHeld "Comparable" t;pure (.bool (←typeInfo t).comparable)
theorem isComparable (w:World):(cmpX #[.agg #[.pointer (some ⟨12,28,none⟩)]]).run Tryz.prog w= .ok (.bool true) w:=by kernel_rfl
theorem isMethodComparable (v:Value) (w:World):(Go.method 421 172 v "Comparable").run Tryz.prog w= .ok (310,v) w:=by kernel_rfl
theorem noIsE (v:Value) (xT:TypeId) (w:World):(Instr.typeAssert (.iface 28 v) xT 174 true).run Tryz.prog w= .ok (.tuple #[.nilIface, .bool false]) w:=run_typeAssert_lacksB Tryz.underlying174 (by kernel_rfl) (by kernel_rfl) v xT w
theorem noUnwrapE (v:Value) (xT:TypeId) (w:World):(Instr.typeAssert (.iface 28 v) xT 177 true).run Tryz.prog w= .ok (.tuple #[.nilIface, .bool false]) w:=run_typeAssert_lacksB Tryz.underlying177 (by kernel_rfl) (by kernel_rfl) v xT w
theorem noUnwrapsE (v:Value) (xT:TypeId) (w:World):(Instr.typeAssert (.iface 28 v) xT 179 true).run Tryz.prog w= .ok (.tuple #[.nilIface, .bool false]) w:=run_typeAssert_lacksB Tryz.underlying179 (by kernel_rfl) (by kernel_rfl) v xT w
theorem noIsW (v:Value) (xT:TypeId) (w:World):(Instr.typeAssert (.iface 74 v) xT 174 true).run Tryz.prog w= .ok (.tuple #[.nilIface, .bool false]) w:=run_typeAssert_lacksB Tryz.underlying174 (by kernel_rfl) (by kernel_rfl) v xT w
theorem hasUnwrapW (v:Value) (xT:TypeId) (w:World):(Instr.typeAssert (.iface 74 v) xT 177 true).run Tryz.prog w= .ok (.tuple #[.iface 74 v, .bool true]) w:=run_typeAssert_hasB Tryz.underlying177 (by kernel_rfl) v xT w
theorem methodUnwrap (v:Value) (w:World):(Go.method 421 74 v "Unwrap").run Tryz.prog w= .ok (304,v) w:=by kernel_rfl
theorem errComp:(Tryz.prog.info? 28).map (·.comparable)=some true:=by kernel_rfl
theorem eqE (c d:Int) (w:World):(binOp .eql 65 (.iface 28 (.int .i64 c)) (.iface 28 (.int .i64 d))).run Tryz.prog w= .ok (.bool (c==d)) w:=by
 obtain⟨i,hi,hcmp⟩:=Option.map_eq_some_iff.1 errComp
 have h: ∀n:Nat,(Op.equalIn (n+2) 65 (.iface 28 (.int .i64 c)) (.iface 28 (.int .i64 d))).run Tryz.prog w= .ok (c==d) w:=fun n=>by
  simp[Op.equalIn,run_underlying Tryz.underlying65,run_underlying Tryz.underlying28,typeInfo,hi,hcmp]
 simp only[binOp]
 simp[Op.equal,Op.maxDepth,h 9998]
theorem is_core (b o:Nat) (c d:Int) (w:World) (h1:w.cell? ⟨b,o+1,none⟩=some (.iface 28 (.int .i64 c))):
  Calls Tryz.prog 44 #[.iface 74 (.pointer (some ⟨b,o,none⟩)), .iface 28 (.int .i64 d)] w fun e w'=>e= .returned (.bool (c==d))∧w'=w:=by
 have h8:= @run_callFunc_extern Tryz.prog 78 _ Extern.ReflectliteType.typeOf Tryz.func78 (by kernel_rfl) (by kernel_rfl) (by kernel_rfl) (by kernel_rfl)
 have h32:= @run_callFunc_extern Tryz.prog 310 _ cmpX Tryz.func310 (by kernel_rfl) (by kernel_rfl) (by kernel_rfl) (by kernel_rfl)
 have tT:=isTypeOf
 have cT:=isComparable
 have mR:=isMethodComparable
 have nE:=noIsE
 have uE:=noUnwrapE
 have vE:=noUnwrapsE
 have nW:=noIsW
 have uW:=hasUnwrapW
 have mU:=methodUnwrap
 have heq:=eqE c d w
 have hty:=run_eql_iface_types (P:=Tryz.prog) 74 28 (.pointer (some ⟨b,o,none⟩)) (.int .i64 d) Tryz.underlying65 (by decide) w
 by_cases hcd:c=d
 ·subst hcd
  have e1:(c==c)=true:=beq_self_eq_true c
  rw[e1] at heq⊢
  go_enter Tryz.func44,Tryz.ntmps44
  go_wp2
  refine wp_loop_rounds 2 ?_
  rw[rounds_succ]
  go_wp2
  rw[rounds_succ]
  go_wp2
  go_ret
  exact⟨rfl,rfl⟩
 ·have e1:(c==d)=false:=beq_eq_false_iff_ne.2 hcd
  rw[e1] at heq⊢
  go_enter Tryz.func44,Tryz.ntmps44
  go_wp2
  refine wp_loop_rounds 2 ?_
  rw[rounds_succ]
  go_wp2
  rw[rounds_succ]
  go_wp2
  go_ret
  exact⟨rfl,rfl⟩
theorem is_nil (d:Int) (w:World):
  Calls Tryz.prog 44 #[.nilIface, .iface 28 (.int .i64 d)] w fun e w'=>e= .returned (.bool false)∧w'=w:=by
 have hn:=run_eql_iface_nil_left (P:=Tryz.prog) w 28 (.int .i64 d) Tryz.underlying65
 go_enter Tryz.func44,Tryz.ntmps44
 go_wp2
 go_ret
 exact⟨rfl,rfl⟩
def kyR (v:V) (k:Ky):Prop:=keyW (fun q=>some ([],true,q.V)) v=some ([],true,k.V)
theorem kyR_rep {v:V} {k:Ky} (h:kyR v k) {w:World} {F:Cx} {x:Value} (hr:Rep w F v x):Rep w F k.V x:=by
 obtain⟨q,h1,h2⟩:=keyW_some h
 have e:q.V=k.V:=by
  simp only[Option.some.injEq,Prod.mk.injEq] at h1
  exact h1.2.2
 rw[←e]
 exact h2 _ _ _ hr
section
variable {P:Program} {G:Sig} {x:Fx} {F:Cx} {w:World} {a:Act} {s:S}
theorem box_pe (hs:Sat x s F a w) {ks:List Nat} {k:Nat} {ty:TypeId} {cs:List V} {y:Value} (hk:Hroot s.h k=some (.box ty (.st cs))) (hc:clL cs=true) (h0:0<cs.length) (hm:k∈ks) (hr:Rep w F (.op k 0) y):Rep w (F.less s.h ks) (.pe (.sq cs.length .any [.st cs]) 0 0) y:=by
 obtain⟨b,hO,rfl⟩:=rep_op hr
 obtain⟨b',cells,u,hO',hheap,hsz,h1,h2,_⟩:=hs.own (.r k) _ hk
 rw[hO] at hO'
 obtain rfl:b=b':=by simpa using hO'
 have hcs:(V.st cs).csize=cs.length:=rfl
 have hp:Rep w (F.less s.h ks) (.pe (.sq cs.length .any [.st cs]) 0 0) (.pointer (some ⟨b,0+(0*cs.length+0),none⟩)):=by
  refine .pe (.sq cs.length .any [.st cs]) cs.length 1 (fun i=>[V.st cs].getD i .any) 0 0 b 0 (fun _ j=>u j) (by simp only[V.elems,List.length_singleton];rw[if_neg (by omega)]) (by omega) (heap_lt hheap) (fun hb=>hb.2 ⟨.r k,_,hm,hk,by simp[Cx.blk,hO]⟩) (fun i hi j hj=> ?_) (fun i hi j hj=> ?_)
  ·obtain rfl:i=0:=by omega
   have h3:=h1 j (by rw[hcs];exact hj)
   rw[show 0+(0*cs.length+j)=j by omega]
   exact⟨(cell0 hheap j).trans h3.1,h3.2⟩
  ·obtain rfl:i=0:=by omega
   have h3:=h2 j (by rw[hcs];exact hj)
   have hcl:((V.st cs).cell j).cl=true:=by
    rw[clL_all] at hc
    show(cs.getD j .any).cl=true
    exact List.all_eq_true.1 hc _ (by simp[List.getD_eq_getElem?_getD,hj])
   exact h3.cl_any hcl fun b hb=>hb.1
 rwa [show 0+(0*cs.length+0)=0 by omega] at hp
def errP (h:List (Nat×Ob)) (q r:V):Prop:=match q with
 | .ifc t (.op k 0)=>match Hroot h k with
  |some (.box _ (.st cs))=>clL cs=true∧(0<cs.length∧r= .ifc t (.pe (.sq cs.length .any [.st cs]) 0 0))
  |_=>False
 |q=>q=r
def errK:V→List Nat
 | .ifc _ (.op k _)=>[k]
 |_=>[]
theorem errP_ok (hs:Sat x s F a w) {ks:List Nat} {q r:V} {y:Value} (h:errP s.h q r) (hm: ∀k,k∈errK q→k∈ks) (hr:Rep w F q y):Rep w (F.less s.h ks) r y:=by
 unfold errP at h
 split at h
 ·split at h
  ·rename_i hk
   obtain⟨h1,h2,rfl⟩:=h
   obtain⟨z,rfl,hz⟩:=rep_ifc hr
   exact .ifc _ _ _ (box_pe hs hk h1 h2 (hm _ (by simp[errK])) hz)
  ·exact h.elim
 ·subst h;exact hr.le (less_le F s.h ks w)
def RE (u:Nat) (r2:V) (nx:Nat) (s:S):Prop:=match s.e.get u with
 |some q=>errP s.h q r2∧s.nx≤nx
 |none=>False
theorem fnE {f:FuncId} {fn:Func} {c:Code} {args:List V} {u:Nat} {r2:V} {nx:Nat} (hr:fn.results.toList=[.tmp u]) (hf:P.funcs[f]?=some fn) (hb:fn.body=some c) (hk:chkFn P fn c args.length=true) (hG:SigOk P G) (hGb:G.b=0) (hc:r2.cl=true)
  (h:vg P G c ⟨enOf 0 args,[],0⟩ ⟨RenC G.b (RE u r2 nx),RenC G.b (RE u r2 nx),[]⟩):Fn P G.J f false args r2:=by
 refine Fn.of_plain (nx:=nx) (post:=[]) ?_ hc
 refine fnH_introR (RE u r2 nx) (fun x s F a w h hs=> ?_) hf hb (chkFn_ok hk).1 (chkFn_ok hk).2.1 (chkFn_ok hk).2.2.1 (chkFn_ok hk).2.2.2 hG hGb h
 have hrr:fn.results= #[.tmp u]:=by rw[←Array.toList_inj,hr]
 unfold RE at h
 split at h
 ·rename_i q hq
  exact⟨_,_,_,hs.less (errK q),⟨trivial,h.2⟩,results_tmp hrr _ _ _,errP_ok hs h.1 (fun k hk=>hk) (hs.env u _ hq).2⟩
 ·exact h.elim
end
def errW (s:List UInt8) (c:Int):V:= .ifc 74 (.pe (.sq 2 .any [.st [.str s, .val (.iface 28 (.int .i64 c))]]) 0 0)
theorem shape_fn (J:Inv) (s:List UInt8):Fn Tryz.prog J 74 false [.str s] (errW s 80):=by
 refine fnE (u:=2) (nx:=2) (by kernel_rfl) Tryz.func74 rfl (by kernel_rfl) (S0_ok J) rfl rfl ?_
 simp only[bQ,reduceLeDiff,reduceEqDiff,reduceLT,reduceAdd,↓reduceIte,reduceCtorEq,S0]
 refine RenC.skip ?_
 simp only[bQ,reduceLeDiff,reduceLT,reduceAdd,↓reduceIte,RE,errP,errW]
 skip
theorem is_fn (J:Inv) (s:List UInt8) (c d:Int):Fn Tryz.prog J 44 false [errW s c, .val (.iface 28 (.int .i64 d))] (.bb (c==d)):=by
 refine⟨⟨_,Tryz.func44,by kernel_rfl,by kernel_rfl⟩,fun w F vs hI hF hlen hvs=> ?_⟩
 obtain⟨x,y,rfl⟩: ∃x y,vs=[x,y]:=by
  match vs,hlen with
  |[x,y],_=>exact⟨x,y,rfl⟩
 obtain⟨z,rfl,hz⟩:=rep_ifc (hvs 0 _ x rfl rfl)
 obtain rfl:=rep_val (hvs 1 _ y rfl rfl)
 cases hz with
 |sl _ _ _ _ _ _ _ _ _ he=>simp[V.elems] at he
 |pe _ sz n cc _ _ b off u he hi hb hF' hc hr=>
  obtain⟨rfl,rfl,rfl⟩:2=sz∧1=n∧_=cc:=by simpa [V.elems] using he
  have h1:=(hc 0 (by omega) 1 (by omega)).1
  obtain h2:=rep_val (hr 0 (by omega) 1 (by omega))
  rw[h2] at h1
  refine(is_core b (off+(0*2+0)) c d w h1).mono fun e w' he=> ?_
  obtain⟨rfl,rfl⟩:=he
  exact⟨_,rfl,Ext.refl _, .bb _⟩
theorem isn_fn (J:Inv) (d:Int):Fn Tryz.prog J 44 false [.val .nilIface, .val (.iface 28 (.int .i64 d))] (.bb false):=by
 refine⟨⟨_,Tryz.func44,by kernel_rfl,by kernel_rfl⟩,fun w F vs hI hF hlen hvs=> ?_⟩
 obtain⟨x,y,rfl⟩: ∃x y,vs=[x,y]:=by
  match vs,hlen with
  |[x,y],_=>exact⟨x,y,rfl⟩
 obtain rfl:=rep_val (hvs 0 _ x rfl rfl)
 obtain rfl:=rep_val (hvs 1 _ y rfl rfl)
 refine(is_nil d w).mono fun e w' he=> ?_
 obtain⟨rfl,rfl⟩:=he
 exact⟨_,rfl,Ext.refl _, .bb _⟩
theorem right2 (l:List UInt8):rightF 2 l=((l.length:Int)==1||(decide (1<(l.length:Int))&& !(byteAt l 0==0&&decide (byteAt l 1<128))&& !(byteAt l 0==255&&decide (128≤byteAt l 1)))):=by
 unfold rightF;rw[if_neg (by decide),if_pos rfl]
theorem uint_of (b:List UInt8):uintF ⟨2,ofuD b,0⟩=(leastF b,true):=by
 unfold ofuD
 rcases leastF_head b with h|⟨c,r,h,hc,hl⟩
 ·rw[h];decide
 ·rw[h]
  have h0:=ne0 hc
  have hb:=c.toNat_lt
  by_cases h8:128≤c.toNat
  ·rw[if_pos (.inr (by rw[byteAt_cons];omega))]
   unfold uintF
   rw[if_pos]
   ·show(leastF (0::c::r),true)=_
    rw[leastF,if_pos rfl,hl]
   ·refine⟨rfl,rfl,?_,?_⟩
    ·show rightF 2 (0::c::r)=true
     rw[right2,byteAt_cons,byteAt_cons1]
     have: ¬(c.toNat:Int)<128:=by omega
     simp[this]
     omega
    ·show byteAt (0::c::r) 0<128
     rw[byteAt_cons];decide
  ·have hlt: ¬((c::r).length=0∨128≤byteAt (c::r) 0):=by rw[byteAt_cons];simp;omega
   rw[if_neg hlt]
   unfold uintF
   rw[if_pos]
   ·show(leastF (c::r),true)=_
    rw[hl]
   ·refine⟨rfl,rfl,?_,?_⟩
    ·show rightF 2 (c::r)=true
     rw[right2,byteAt_cons]
     have e1:((c.toNat:Int)==0)=false:=by simp;omega
     have e2:((c.toNat:Int)==255)=false:=by simp;omega
     rw[e1,e2]
     cases r<;>simp<;>omega
    ·show byteAt (c::r) 0<128
     rw[byteAt_cons];omega
theorem of_uint {t:Tlv} {n:List UInt8} (h:uintF t=(n,true)):ofuD n=t.data∧t.tag=2∧t.kids=0∧rightF 2 t.data=true∧0<t.data.length∧byteAt t.data 0<128:=by
 unfold uintF at h
 split at h
 ·rename_i hc
  obtain⟨h1,h2,h3,h4⟩:=hc
  obtain rfl:leastF t.data=n:=(Prod.mk.inj h).1
  have key: ∀d:List UInt8,rightF 2 d=true→byteAt d 0<128→ofuD (leastF d)=d∧0<d.length:=by
   intro d hr hb
   match d with
   |[]=>rw[show rightF 2 []=false from by decide] at hr;cases hr
   |[c]=>
    refine⟨?_,by simp⟩
    rw[byteAt_cons] at hb
    by_cases h0:c=0
    ·subst h0;decide
    ·have e:leastF [c]=[c]:=by rw[leastF,if_neg h0]
     rw[e];unfold ofuD;rw[e,if_neg (by rw[byteAt_cons];simp;omega)]
   |c::e::r=>
    refine⟨?_,by simp⟩
    rw[right2,byteAt_cons,byteAt_cons1] at hr
    rw[byteAt_cons] at hb
    by_cases h0:c=0
    ·subst h0
     have h8:128≤e.toNat:=by
      by_cases h8:128≤e.toNat
      ·exact h8
      ·have:(e.toNat:Int)<128:=by omega
       simp[this] at hr
       omega
     have he:e≠0:=fun h=>by subst h;simp at h8
     have l1:leastF (e::r)=e::r:=by rw[leastF,if_neg he]
     have l0:leastF (0::e::r)=e::r:=by rw[leastF,if_pos rfl,l1]
     rw[l0];unfold ofuD;rw[l1,if_pos (.inr (by rw[byteAt_cons];omega))];rfl
    ·have l1:leastF (c::e::r)=c::e::r:=by rw[leastF,if_neg h0]
     rw[l1];unfold ofuD;rw[l1,if_neg (by rw[byteAt_cons];simp;omega)]
  obtain⟨k1,k2⟩:=key t.data h3 h4
  exact⟨k1,h1,h2,h3,k2,h4⟩
 ·cases (Prod.mk.inj h).2
theorem shaped_one {t:Tlv} (h1:tagF t.tag=true) (h2:innerF t.tag=false) (h3:t.kids=0) (h4:rightF t.tag t.data=true):shapedF [t]=true:=by
 unfold shapedF stF stB
 simp[h1,h2,h3,h4]
def gr:Bool→List UInt8→Bool
 |b,[]=>b
 |b,c::r=> !(b&&decide (c.toNat=128))&&gr (decide (c.toNat<128)) r
theorem gr_groups (l:List UInt8): ∀k i,i+k=l.length→(groupsTo l i&&gr (beginsAt l i) (l.drop i))=(beginsAt l l.length&&groupsTo l l.length):=by
 intro k
 induction k with
 |zero=>
  intro i hi
  obtain rfl:i=l.length:=by omega
  rw[List.drop_length,gr,Bool.and_comm]
 |succ k ih=>
  intro i hi
  have hlt:i<l.length:=by omega
  have h:=ih (i+1) (by omega)
  rw[←h,groupsTo_succ,List.drop_eq_getElem_cons hlt,gr]
  have e:byteAt l i=(l[i].toNat:Int):=by unfold byteAt;rw[List.getD_eq_getElem?_getD,List.getElem?_eq_getElem hlt];rfl
  have e1:(byteAt l i==128)=decide (l[i].toNat=128):=by rw[Bool.eq_iff_iff,beq_iff_eq,decide_eq_true_eq,e];omega
  have e2:beginsAt l (i+1)=decide (l[i].toNat<128):=by
   show decide (byteAt l i<128)=_
   rw[e];exact decide_eq_decide.2 (by omega)
  rw[e1,e2,Bool.and_assoc]
theorem groupsF_gr (l:List UInt8):groupsF l=(decide (0<l.length)&&gr true l):=by
 have h:=gr_groups l l.length 0 (by omega)
 unfold groupsF
 rw[Bool.and_assoc,←h]
 simp[groupsTo,beginsAt]
theorem gr_hi (m:Nat): ∀r,gr true (hiF m++r)=if m=0 then gr true r else gr false r:=by
 induction m using Nat.strongRecOn with
 |_ m ih=>
  intro r
  by_cases h:m=0
  ·subst h;rw[hiF_zero];simp
  ·rw[hiF_pos h,List.append_assoc,ih (m/128) (by omega),if_neg h]
   have hu:=u8_nat (n:=128+m%128) (by omega)
   have h2: ¬(128+m%128<128):=by omega
   by_cases h0:m/128=0
   ·have h1: ¬(128+m%128=128):=by omega
    rw[if_pos h0,List.singleton_append,gr,hu]
    simp only[h1,h2,decide_false,Bool.and_false,Bool.not_false,Bool.true_and]
   ·rw[if_neg h0,List.singleton_append,gr,hu]
    simp only[h2,decide_false,Bool.false_and,Bool.not_false,Bool.true_and]
theorem gr_grp (m:Nat) (r:List UInt8):gr true (grpF m++r)=gr true r:=by
 unfold grpF
 rw[List.append_assoc,gr_hi]
 have hu:=u8_nat (n:=m%128) (by omega)
 have h2:m%128<128:=by omega
 have h1: ¬(m%128=128):=by omega
 split<;>rw[List.singleton_append,gr,hu]<;>simp only[h1,h2,decide_true,decide_false,Bool.and_false,Bool.not_false,Bool.true_and]
theorem gr_grps: ∀ms:List Nat,gr true (ms.flatMap grpF)=true
 |[]=>rfl
 |m::r=>by rw[List.flatMap_cons,gr_grp,gr_grps r]
theorem oidS_hi (m:Nat):m≤2147483727→ ∀r out,oidS (hiF m++r) out 0=oidS r out m:=by
 induction m using Nat.strongRecOn with
 |_ m ih=>
  intro hm r out
  by_cases h:m=0
  ·subst h;rw[hiF_zero];rfl
  ·rw[hiF_pos h,List.append_assoc,ih (m/128) (by omega) (by omega),List.singleton_append,oidS]
   have hu:=u8_nat (n:=128+m%128) (by omega)
   rw[hu,show m/128*128+(128+m%128)%128=m from by omega,if_neg (by omega),if_pos (by omega)]
theorem oidS_grp (m:Nat) (hm:m≤2147483727) (r:List UInt8) (out:List (List UInt8)):oidS (grpF m++r) out 0=
  if out.length=0 then if 2147483647<m-40*min (m/40) 2 then none else oidS r [Lib.itoa (min (m/40) 2:Nat),Lib.itoa (m-40*min (m/40) 2:Nat)] 0
  else if 2147483647<m then none else oidS r (out++[Lib.itoa (m:Nat)]) 0:=by
 unfold grpF
 rw[List.append_assoc,oidS_hi (m/128) (by omega),List.singleton_append,oidS]
 have hu:=u8_nat (n:=m%128) (by omega)
 rw[hu,show m/128*128+m%128%128=m from by omega,if_neg (by omega),if_neg (by omega)]
theorem oidS_all: ∀(ms:List Nat) (out:List (List UInt8)),out.length≠0→(∀m∈ms,m≤2147483647)→oidS (ms.flatMap grpF) out 0=some (out++ms.map fun m:Nat=>Lib.itoa m)
 |[],out,_,_=>by simp[oidS]
 |m::r,out,h,hm=>by
  have h1:=hm m (by simp)
  rw[List.flatMap_cons,oidS_grp m (by omega),if_neg h,if_neg (by omega),oidS_all r _ (by simp) fun x hx=>hm x (by simp[hx])]
  simp
theorem right6 (l:List UInt8):rightF 6 l=groupsF l:=by
 unfold rightF;rw[if_neg (by decide),if_neg (by decide),if_neg (by decide),if_neg (by decide),if_pos rfl]
theorem nums_map: ∀{r:List (List UInt8)},r.all numOk=true→ ∃ms:List Nat,(∀m∈ms,m≤2147483647)∧r=ms.map (fun m:Nat=>Lib.itoa m)∧(r.flatMap fun p=>grpF (numV p).toNat)=ms.flatMap grpF
 |[],_=>⟨[],by simp,rfl,rfl⟩
 |p::r,h=>by
  simp only[List.all_cons,Bool.and_eq_true] at h
  obtain⟨n,h1,h2,h3⟩:=num_of h.1
  obtain⟨ms,q1,q2,q3⟩:=nums_map h.2
  refine⟨n::ms,?_,by rw[List.map_cons,←q2,←h2],by rw[List.flatMap_cons,List.flatMap_cons,q3,h3];rfl⟩
  intro x hx
  rcases List.mem_cons.1 hx with rfl|hx
  ·exact h1
  ·exact q1 x hx
theorem oid_of {s d:List UInt8} (h:ooF (spl 46 s)=some d):oidF ⟨6,d,0⟩=(s,true)∧shapedF [⟨6,d,0⟩]=true:=by
 have hj:=join_spl 46 s
 unfold ooF at h
 split at h
 ·rename_i a b r hs
  split at h
  ·rename_i hc
   obtain⟨h1,h2,h3⟩:=hc
   simp only[List.all_cons,Bool.and_eq_true] at h1
   obtain⟨na,a1,a2,a3⟩:=num_of h1.1
   obtain⟨nb,b1,b2,b3⟩:=num_of h1.2.1
   obtain⟨ms,q1,q2,q3⟩:=nums_map h1.2.2
   obtain rfl:=Option.some.inj h
   rw[q3,a3,b3,show((40*(na:Int)+(nb:Int)).toNat)=40*na+nb from by omega]
   have hg:rightF 6 (grpF (40*na+nb)++ms.flatMap grpF)=true:=by
    rw[right6,groupsF_gr,gr_grp,gr_grps]
    have:=grpF_ne (40*na+nb)
    have:0<(grpF (40*na+nb)++ms.flatMap grpF).length:=by rw[List.length_append];omega
    rw[decide_eq_true this];rfl
   refine⟨?_,shaped_one (show tagF 6=true by decide) (show innerF 6=false by decide) rfl hg⟩
   unfold oidF
   rw[if_pos ⟨rfl,rfl,hg⟩]
   have ht:min ((40*na+nb)/40) 2=na:=by omega
   show(match oidS (grpF (40*na+nb)++ms.flatMap grpF) [] 0 with
    |some l=>(Lib.join l [46],true)
    |none=>([],false))=(s,true)
   rw[oidS_grp _ (by omega),if_pos (show([]:List (List UInt8)).length=0 from rfl),ht,show 40*na+nb-40*na=nb from by omega,if_neg (by omega),oidS_all ms _ (by simp) q1]
   simp only
   rw[←a2,←b2,←q2,List.cons_append,List.cons_append,List.nil_append,←hs,hj]
  ·cases h
 ·cases h
end Go.Proofs.YtfengpdaocgcnaaGreatDoor
