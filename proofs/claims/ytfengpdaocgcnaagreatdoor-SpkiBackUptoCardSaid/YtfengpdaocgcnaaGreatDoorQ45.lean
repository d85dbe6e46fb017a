/- The law on keys: are they the same; its start, with Parse's and Unpem's answers as memory of their own. What a statement's arguments read as. How long an argument's bytes are, by its reading. What an element that came in reads as. What a key that came in reads as; the tables of Ed25519's numbers that the program's text lays. -/
import Derived.Test.YtfengpdaocgcnaaGreatDoorQ32
import Derived.Test.YtfengpdaocgcnaaGreatDoorQ43
import Derived.Test.YtfengpdaocgcnaaGreatDoorQ44
import Derived.Test.YtfengpdaocgcnaaGreatDoorQ33
import Derived.WalkKit
import Derived.ProofKit
import Derived.OpenShut
import Derived.Deep.Slices
import Derived.SizedLaws
import Derived.Stop.LaidErr
import Derived.Lib.LaidTab
import Derived.Test.YtfengpdaocgcnaaGreatDoorRows
import Derived.Deep.Strs
import Derived.Lib.LaidU8
namespace Go.Proofs.YtfengpdaocgcnaaGreatDoor
open Nat (reduceMul reduceLeDiff reduceEqDiff reduceLT reduceAdd reduceSub reduceDiv)
open Int (reduceToNat reducePow)
open Go.RowKit
set_option linter.unusedSimpArgs false
set_option maxRecDepth 100000
def LKaf:FuncId→List V→CR:=fun f args=>tab [(13,cY fun a=>cY fun b=>cF [a.length≤140737488355328] false (.bb (a==b)))] noF f args
def LKa (J:Inv):Sig:=⟨J,sdf,LKaf,noH,0⟩
theorem LKa_ok (J:Inv):SigOk Tryz.prog (LKa J):= .plain (tab_ok (.c (.y fun a=> .y fun b=> .z fun⟨c0,_⟩=>sameBytes_fn J a b c0)<| .n) noF_ok)
def skB (k l:Ky):Bool:=k.kty==l.kty&&k.crv==l.crv&&k.s==l.s&&k.n==l.n&&k.e==l.e&&k.x==l.x&&k.y==l.y
theorem skB_self (k:Ky):skB k k=true:=by simp[skB]
theorem same_fn (J:Inv) (k l:Ky) (hk:k.Ok):Fn Tryz.prog J 21 false [k.V,l.V] (.bb (skB k l)):=by
 rcases k with ⟨a,b,s,n,e,x,y⟩
 rcases l with ⟨a',b',s',n',e',x',y'⟩
 obtain⟨h1,h2,h3,h4,h5⟩:=hk
 simp only at h1 h2 h3 h4 h5
 refine fnI Tryz.func21 rfl (by kernel_rfl) rfl (LKa_ok J) ?_
 unfold Tryz.f21
 simp only[↓bD,bQ,reduceEqDiff,reduceLT,reduceAdd,↓reduceIte,reduceCtorEq,LKa,LKaf,Ky.V,keyV]
 exact⟨fun _=>by omega,fun _=>by omega,fun _=>by omega,fun _=>by omega,fun _=>by omega,rfl⟩
theorem gx_bys:beN gx=bys 32 gx∧beN gy=bys 32 gy:=by
 have h:=gx_len
 rw[beN_len,beN_len] at h
 unfold beN
 rw[h.1,h.2]
 exact⟨rfl,rfl⟩
theorem k0_els:k0.els=[⟨48,[],2⟩,⟨48,[],2⟩,⟨6,[42,134,72,206,61,2,1],0⟩,⟨6,[42,134,72,206,61,3,1,7],0⟩,⟨3,0::4::(bys 32 gx++bys 32 gy),0⟩]:=by
 unfold Ky.els k0
 rw[if_neg (by decide),if_pos rfl,gx_bys.1,gx_bys.2]
 unfold elemF algE cvN
 rw[if_neg (by decide),nm_ec.2,nm_256.2]
 rfl
theorem k0_good:k0.good=true:=by
 unfold Ky.good k0 goodK
 rw[if_neg (by decide),if_neg (by decide),if_pos rfl]
 unfold crvOk gOk
 rw[if_pos rfl,beN_nb,beN_nb,gx_len.1,gx_len.2,g_on]
 rfl
theorem k0_ok:k0.Ok:=⟨by simp[k0],by simp[k0],by simp[k0],by show(beN gx).length≤_;rw[gx_len.1];omega,by show(beN gy).length≤_;rw[gx_len.2];omega⟩
theorem k0_print:(printF k0.els).1.length=91∧byteAt (printF k0.els).1 0=48∧byteAt (printF k0.els).1 26=4:=by
 rw[k0_els]
 exact⟨by kernel_rfl,by kernel_rfl,by kernel_rfl⟩
theorem pemL_len: ∀n,∀s:List UInt8,s.length≤n→(pemL s).length≤2*s.length
 |0,s,hn=>by
  obtain rfl:s=[]:=List.length_eq_zero_iff.1 (by omega)
  rw[pemL_nil]
  exact Nat.zero_le _
 |n+1,s,hn=>by
  by_cases hs:s=[]
  ·subst hs;rw[pemL_nil];exact Nat.zero_le _
  ·have hp:=List.length_pos_iff.2 hs
   have:=pemL_len n (s.drop 64) (by rw[List.length_drop];omega)
   rw[pemL_ne hs]
   simp only[List.length_append,List.length_cons,List.length_take,List.length_drop] at this⊢
   omega
theorem pem_len (k:Ky):k.pem.1.length≤16777216:=by
 have h1:=enc_len (pr_len k)
 unfold Ky.pem
 split
 ·have h2:=pemL_len _ (encF stdS k.pr.1) (Nat.le_refl _)
  have e1:beginN.length=27:=rfl
  have e2:endN.length=25:=rfl
  unfold pemF
  simp only[List.length_append,e1,e2]
  omega
 ·exact Nat.zero_le _
theorem z0_good:z0.good=false:=by rfl
def ownS (f0:FuncId) (t0:List UInt8) (res:Nat→V) (post:Nat→List (Nat×Ob)) (d:Nat):FuncId→List V→List (Nat×Ob)→Nat→Option CallH:=fun f args _ nx=>
 if f=f0 then match args with
  |[.str t]=>some ⟨[t=t0],[],[],res nx,post nx,nx+d⟩
  |_=>none
 else none
theorem ownS_ok {J:Inv} {f0:FuncId} {t0:List UInt8} {res:Nat→V} {post:Nat→List (Nat×Ob)} {d:Nat} (H: ∀nx,FnH Tryz.prog J f0 [.str t0] [] nx (res nx) (post nx) (nx+d)) (f:FuncId) (args:List V) (h:List (Nat×Ob)) (nx:Nat) (c:CallH) (hc:ownS f0 t0 res post d f args h nx=some c) (hl:AllP c.l):FnH Tryz.prog J f (mixA h c.bw args).1 c.pre nx c.res c.post c.nx:=by
 unfold ownS at hc
 split at hc
 ·rename_i hf;subst hf
  split at hc
  ·rename_i t
   obtain rfl:=Option.some.inj hc
   have h1:t=t0:=hl _ (by simp)
   subst h1
   exact H nx
  ·cases hc
 ·cases hc
theorem ky_kinds (k:Ky) (hg:k.good=true) (h1:k.kty≠1):(∃n e,k=⟨2,0,[],n,e,[],[]⟩∧rsC n e=0)∨(∃c x y,∃N:Nat,k=⟨3,c,[],[],[],x,y⟩∧(c=1∨c=2)∧sizeC c=N∧x.length=N∧y.length=N)∨(∃x,k=⟨4,3,[],[],[],x,[]⟩∧x.length=32):=by
 unfold Ky.good goodK at hg
 rw[if_neg h1] at hg
 rcases k with ⟨kty,crv,s,n,e,x,y⟩
 simp only at hg h1
 by_cases h2:kty=2
 ·subst h2
  rw[if_pos rfl] at hg
  simp only[Bool.and_eq_true,decide_eq_true_eq] at hg
  obtain⟨rfl,hu,hr⟩:=hg
  have hu:=un_nil hu
  obtain rfl:s=[]:=hu _ (by simp)
  obtain rfl:x=[]:=hu _ (by simp)
  obtain rfl:y=[]:=hu _ (by simp)
  exact .inl ⟨n,e,rfl,hr⟩
 rw[if_neg h2] at hg
 by_cases h3:kty=3
 ·subst h3
  rw[if_pos rfl] at hg
  simp only[Bool.and_eq_true] at hg
  obtain⟨ho,hu⟩:=hg
  have hu:=un_nil hu
  obtain rfl:s=[]:=hu _ (by simp)
  obtain rfl:n=[]:=hu _ (by simp)
  obtain rfl:e=[]:=hu _ (by simp)
  obtain⟨hc,hx,hy⟩:(crv=1∨crv=2)∧(x.length:Int)=sizeC crv∧(y.length:Int)=sizeC crv:=by
   unfold crvOk at ho
   split at ho
   ·rename_i hc;subst hc
    unfold gOk at ho
    simp only[Bool.and_eq_true,decide_eq_true_eq] at ho
    exact⟨.inl rfl,by rw[ho.1];rfl,by rw[ho.2.1];rfl⟩
   ·split at ho
    ·rename_i hc;subst hc
     unfold gOk at ho
     simp only[Bool.and_eq_true,decide_eq_true_eq] at ho
     exact⟨.inr rfl,by rw[ho.1];rfl,by rw[ho.2.1];rfl⟩
    ·cases ho
  exact .inr (.inl ⟨crv,x,y,x.length,rfl,hc,hx.symm,rfl,by omega⟩)
 rw[if_neg h3] at hg
 by_cases h4:kty=4
 ·subst h4
  rw[if_pos rfl] at hg
  simp only[Bool.and_eq_true,decide_eq_true_eq] at hg
  obtain⟨rfl,hu,ho⟩:=hg
  have hu:=un_nil hu
  obtain rfl:s=[]:=hu _ (by simp)
  obtain rfl:n=[]:=hu _ (by simp)
  obtain rfl:e=[]:=hu _ (by simp)
  obtain rfl:y=[]:=hu _ (by simp)
  unfold edOk at ho
  simp only[Bool.and_eq_true,decide_eq_true_eq] at ho
  exact .inr (.inr ⟨x,rfl,ho.1⟩)
 rw[if_neg h4] at hg
 cases hg
theorem own_of (J:Inv) (hJ: ∀w F,J.I w F→JV.I w F) (hE:EdT J) (k:Ky) (hg:k.good=true) (h1:k.kty≠1) (hk:k.Ok):(∀nx,FnH Tryz.prog J 19 [.by k.pr.1] [] nx (kyP k nx) (kyH k nx) (nx+12))∧ ∀nx,FnH Tryz.prog J 20 [.str k.pem.1] [] nx (kyP k nx) (kyH k nx) (nx+12):=by
 obtain⟨q1,q2,q3,q4⟩:=back k hg h1
 have hpl:=pem_len k
 have hbl:k.pr.1.length≤65536:=pr_len k
 have hpm:k.pem.1=pemF k.pr.1:=by unfold Ky.pem;rw[if_pos q1]
 have hne:k.pr.1≠[]:=fun e=>by
  have h6:=print_size (ts:=k.els) (by rw[←q4];exact q1)
  rw[←q4,e] at h6
  unfold szOf at h6
  simp only[List.length_nil] at h6
  omega
 rw[hpm] at hpl⊢
 generalize k.pr.1=b0 at *
 have HU:=fun(hsh:KyS k) (H: ∀nx,FnH Tryz.prog J 19 [.by b0] [] nx (kyP k nx) (kyH k nx) (nx+12))=>And.intro H (unpemO_own J hJ k hsh b0 hne hpl H)
 obtain⟨k1,k2,k3,k4,k5⟩:=hk
 rcases ky_kinds k hg h1 with ⟨n,e,rfl,hr⟩|⟨c,x,y,N,rfl,hcc,hN,hx,hy⟩|⟨x,rfl,hx⟩
 ·exact HU (.rsa n e) (parseO2_own J hE n e b0 ⟨k1,k2,k3,k4,k5⟩ hg fun nx=>readO2_own J hJ n e b0 _ nx hr rfl q3 hbl)
 ·exact HU (.ec c x y) (parseO3_own J hE c x y b0 ⟨k1,k2,k3,k4,k5⟩ hg fun nx=>readO3_own J hJ c hcc x y b0 N nx hN hx hy q3 hbl)
 ·exact HU (.okp x) (parseO4_own J hE x b0 ⟨k1,k2,k3,k4,k5⟩ hg fun nx=>readO4_own J hJ x b0 nx hx q3 hbl)
def LKbf:FuncId→List V→CR:=fun f args=>tab [(42,cI .i64 fun c=>cF [c=1] false k0.V),
 (9,cK fun k=>cF [k.Ok] false (.tu [.by k.pr.1, .i k.pr.2])),
 (10,cK fun k=>cF [k.Ok] false (.tu [.str k.pem.1, .i k.pem.2])),
 (18,cK fun k=>cF [k.Ok] false (.i (chkC k.good))),
 (21,cKK fun k=>cF [k.1.Ok] false (.bb (skB k.1 k.2)))] LKaf f args
def LKb (J:Inv):Sig:=⟨J,sdf,LKbf,noH,0⟩
theorem LKb_ok (J:Inv) (hJ: ∀w F,J.I w F→JV.I w F) (hE:EdT J):SigOk Tryz.prog (LKb J):= .plain (tab_ok (.c (.i fun _=> .z fun⟨c0,_⟩=>(by rw[c0];exact base_fn J))<|
 .c (.k fun k=> .z fun⟨c0,_⟩=>sprint_fn J hJ hE k c0)<|
 .c (.k fun k=> .z fun⟨c0,_⟩=>spem_fn J hJ hE k c0)<|
 .c (.k fun _=> .z fun⟨c0,_⟩=>check_fn J hE _ _ _ _ _ _ _ c0.s c0.n c0.e c0.x c0.y)<|
 .c (.kk fun k=> .z fun⟨c0,_⟩=>same_fn J k.1 k.2 c0)<| .n) (LKa_ok J).1)
def owT (b0 t0:List UInt8) (k:Ky):FuncId→List V→List (Nat×Ob)→Nat→Option CallH:=fun f args h nx=>
 if f=19 then ownT 19 b0 (kyP k) (kyH k) 12 f args h nx
 else ownS 20 t0 (kyP k) (kyH k) 12 f args h nx
theorem owT_ok {J:Inv} {b0 t0:List UInt8} {k:Ky} (H:(∀nx,FnH Tryz.prog J 19 [.by b0] [] nx (kyP k nx) (kyH k nx) (nx+12))∧ ∀nx,FnH Tryz.prog J 20 [.str t0] [] nx (kyP k nx) (kyH k nx) (nx+12)) (f:FuncId) (args:List V) (h:List (Nat×Ob)) (nx:Nat) (c:CallH) (hc:owT b0 t0 k f args h nx=some c) (hl:AllP c.l):FnH Tryz.prog J f (mixA h c.bw args).1 c.pre nx c.res c.post c.nx:=by
 unfold owT at hc
 split at hc
 ·exact ownT_ok H.1 f args h nx c hc hl
 ·exact ownS_ok H.2 f args h nx c hc hl
theorem kyP_0 (nx:Nat):kyP k0 nx= .tu [koV 3 1 [none,none,none,some nx,some (nx+1)], .i 0]:=rfl
theorem kyH_0 (nx:Nat):kyH k0 nx=[(nx, .row 5 (.by (beN gx))),(nx+1, .row 5 (.by (beN gy)))]:=rfl
def LKd (J:Inv):Sig:=⟨J,sdf,LKbf,owT k0.pr.1 k0.pem.1 k0,0⟩
theorem LKd_ok (J:Inv) (hJ: ∀w F,J.I w F→JV.I w F) (hE:EdT J):SigOk Tryz.prog (LKd J):=⟨(LKb_ok J hJ hE).1,owT_ok (own_of J hJ hE k0 k0_good (by decide) k0_ok)⟩
theorem started_own (J:Inv) (hJ: ∀w F,J.I w F→JV.I w F) (hE:EdT J):FnH Tryz.prog J 17 [] [] 0 (.bb true) [] 99:=by
 have k0V:k0.V= .st [.i 3, .i 1, .by [], .by [], .by [], .by (beN gx), .by (beN gy)]:=rfl
 have k0E:(⟨3,1,[],[],[],beN gx,beN gy⟩:Ky)=k0:=rfl
 have z0E:(⟨0,0,[],[],[],[],[]⟩:Ky)=z0:=rfl
 obtain⟨h1,h2,h3,h4⟩:=back k0 k0_good (by decide)
 obtain⟨h5,h6⟩:=back_pem k0 k0_good (by decide)
 obtain⟨h7,h8,h9⟩:=k0_print
 rw[←h4] at h7 h8 h9
 have hl:=pem_len k0
 have hg:chkC k0.good=0:=by rw[k0_good];rfl
 have hz:chkC z0.good=90:=by rw[z0_good];rfl
 have hs:skB k0 k0=true:=skB_self _
 have ho:=k0_ok
 have zo:=z0_ok
 have hok:=LKd_ok J hJ hE
 unfold LKd at hok
 generalize hR:k0.pr=R at *
 generalize hM:k0.pem=M at *
 refine fnJ Tryz.func17 rfl (by kernel_rfl) hok rfl ?_
 unfold Tryz.f17
 have e91:((91:Nat):Int)=91:=rfl
 have e92:((91:Int)==91)=true:=rfl
 have e93:((48:Int)==48)=true:=rfl
 have e94:((4:Int)==4)=true:=rfl
 have e95:((0:Int)==0)=true:=rfl
 have e96:((90:Int)==90)=true:=rfl
 simp only[↓bD,bQ,reduceLeDiff,reduceEqDiff,reduceLT,reduceAdd,↓reduceIte,reduceCtorEq,reduceToNat,LKbf,LKaf,owT,ownT,ownS,kyP_0,kyH_0,koV,cK,cKK,keyW,byN,k0V,k0E,z0E,h1,h5,h7,h8,h9,hg,hz,hs,hR,hM,e91]
 repeat' with_reducible apply And.intro
 all_goals first|exact ho|exact hl|(intro _;first|exact ho|exact zo|omega)|(refine RenC.skip ?_;simp only[bQ,reduceLeDiff,↓reduceIte])
theorem started_fn (J:Inv) (hJ: ∀w F,J.I w F→JV.I w F) (hE:EdT J):Fn Tryz.prog J 17 false [] (.bb true):=Fn.of_plain (started_own J hJ hE) rfl
open Go.ChangeShapes Go.WideShapes Go.ChangeAt Go.RowKit
theorem cell_lt {w:World} {a:Addr} {v:Value} (h:w.cell? a=some v):a.block<w.heap.size:=by
 rcases Nat.lt_or_ge a.block w.heap.size with h1|h1
 ·exact h1
 ·have:w.heap[a.block]?=none:=Array.getElem?_eq_none h1
  unfold World.cell? at h
  rw[this] at h
  simp at h
theorem inv_of_tab {P:Program} {W:World} {g:Nat} {nm:String} {k:IntKind} {zs:List Int} (hg:P.globalNamed nm=some g) (h:Lib.TabIs P W nm k zs):(tabInv P [(nm,k,zs)]).I W fun _=>False:=by
 intro t ht
 obtain rfl:=List.mem_singleton.1 ht
 refine⟨h,g,hg,?_,fun h=>h⟩
 unfold Lib.TabIs World.var? at h
 rw[hg] at h
 simp only[Option.bind_some] at h
 rcases Nat.lt_or_ge g W.heap.size with h1|h1
 ·exact h1
 ·rw[Array.getElem?_eq_none h1] at h;simp at h
open Go.ChangeShapes Go.WideShapes Go.ChangeAt Go.RowKit
open Go.ChangeShapes Go.WideShapes Go.ChangeAt Go.RowKit
theorem iface_cell {P:Program} {W:World} {n:String} {nm:String} {d:DataW Unit} {g:Nat} {t:TypeId} {ms:Array (String×TypeId)} (h:Lib.VarReads P W n (.iface nm d)) (hg:P.globalNamed n=some g) (hty:(P.globals[g]?).map (·.type)=some t) (ht:P.underlying t=some (.interface ms)):
  ErrAt W g:=by
 obtain⟨g',t',cs,fuel,p,hg',hty',hvar,hd⟩:=h
 obtain rfl:=Option.some.inj (hg.symm.trans hg')
 obtain rfl:=Option.some.inj (hty.symm.trans hty')
 have hc: ∃u v,cs.toList=[.iface u v]:=by
  cases fuel with
  |zero=>simp[DataW.trod] at hd
  |succ k=>
   unfold DataW.trod at hd
   rw[ht] at hd
   split at hd<;>simp_all
 obtain⟨u,v,hc⟩:=hc
 refine⟨.iface u v,?_, .inr ⟨u,v,rfl⟩⟩
 rw[World.var?_cell hg' hvar 0,←Array.getElem?_toList,hc]
 rfl
open Go.ChangeShapes Go.WideShapes Go.ChangeAt Go.RowKit
def keyOk (s n e x y:List UInt8):Prop:=s.length≤16777216∧n.length≤16777216∧e.length≤16777216∧x.length≤16777216∧y.length≤16777216
theorem cell_keepE {w w':World} {b:Nat} (e:w'.heap[b]?=w.heap[b]?) (o:Nat):w'.cell? ⟨b,o,none⟩=w.cell? ⟨b,o,none⟩:=by
 simp only[World.cell?,e]
structure Tab8 (w:World) (F:Nat→Prop) (g:Nat) (L:List Nat):Prop where
 lt:g<w.heap.size
 fr: ¬F g
 at': ∀i,i<8→w.cell? ⟨g,i,none⟩=some (.int .u32 ((L.getD i 0:Nat):Int))
theorem Tab8.out {w w':World} {F F':Nat→Prop} {g:Nat} {L:List Nat} (h:Tab8 w F g L) (hs:w.heap.size≤w'.heap.size) (hb: ∀b,b<w.heap.size→ ¬F b→w'.heap[b]?=w.heap[b]?) (hF: ∀b,F' b→F b∨w.heap.size≤b):Tab8 w' F' g L:=
 ⟨Nat.lt_of_lt_of_le h.lt hs,fun hf=>(hF _ hf).elim h.fr fun h2=>by have:=h.lt;omega,fun i hi=>(cell_keepE (hb _ h.lt h.fr) _).trans (h.at' i hi)⟩
def JE:Inv where
 I:=fun w F=>Tab8 w F 0 primeL∧Tab8 w F 2 curveL∧Tab8 w F 3 rootL
 out:=fun{w w' F F'} h hs hb hF=>⟨h.1.out hs hb hF,h.2.1.out hs hb hF,h.2.2.out hs hb hF⟩
 gl:=⟨fun g=>if g=0 then some (.pe (.sq 8 .any [.st (wds primeL)]) 0 0) else if g=2 then some (.pe (.sq 8 .any [.st (wds curveL)]) 0 0) else if g=3 then some (.pe (.sq 8 .any [.st (wds rootL)]) 0 0) else none,none,fun _ _ _=>none⟩
 lkOk:=fun _ _ _ _ _ h=>by cases h
 glOk:=fun{w F} g v hg h O W=>by
  have key: ∀L:List Nat,L.length=8→Tab8 w F g L→Rep w ⟨F,O,W⟩ (.pe (.sq 8 .any [.st (wds L)]) 0 0) (.pointer (some ⟨g,0,none⟩)):=fun L h8 ht=>by
   refine .pe _ 8 1 (fun i=>[V.st (wds L)].getD i .any) 0 0 g 0 (fun _ j=> .int .u32 ((L.getD j 0:Nat):Int)) rfl (by omega) ht.lt ht.fr (fun i hi j hj=> ?_) (fun i hi j hj=> ?_)
   ·obtain rfl:i=0:=by omega
    rw[show 0+(0*8+j)=j by omega]
    exact⟨ht.at' j hj,rfl⟩
   ·obtain rfl:i=0:=by omega
    have e:(V.st (wds L)).cell j= .val (.int .u32 ((L.getD j 0:Nat):Int)):=by
     show(wds L).getD j .any=_
     rw[List.getD_eq_getElem?_getD,List.getElem?_eq_getElem (by rw[wds_len];omega),Option.getD_some,←wds_get,List.getD_eq_getElem?_getD,List.getElem?_eq_getElem (by rw[wds_len];omega),Option.getD_some]
    show Rep _ _ ((V.st (wds L)).cell j) _
    rw[e]
    exact .val _
  have hg:(if g=0 then some (V.pe (.sq 8 .any [.st (wds primeL)]) 0 0) else if g=2 then some (V.pe (.sq 8 .any [.st (wds curveL)]) 0 0) else if g=3 then some (V.pe (.sq 8 .any [.st (wds rootL)]) 0 0) else none)=some v:=hg
  split at hg
  ·rename_i hgg
   subst hgg
   obtain rfl:=Option.some.inj hg
   exact key primeL rfl h.1
  ·split at hg
   ·rename_i hgg
    subst hgg
    obtain rfl:=Option.some.inj hg
    exact key curveL rfl h.2.1
   ·split at hg
    ·rename_i hgg
     subst hgg
     obtain rfl:=Option.some.inj hg
     exact key rootL rfl h.2.2
    ·cases hg
noncomputable def JX:Inv where
 I:=fun w F=>JE.I w F∧JV.I w F
 out:=fun h hs hb hF=>⟨JE.out h.1 hs hb hF,JV.out h.2 hs hb hF⟩
 gl:=JE.gl
 lkOk:=fun P t m s z h1 h2 h3=>JE.lkOk P t m s z h1 h2 h3.1
 glOk:=fun g v h1 h2=>JE.glOk g v h1 h2.1
theorem edT_JX:EdT JX:=⟨rfl,rfl,rfl⟩
theorem jv_JX: ∀w F,JX.I w F→JV.I w F:=fun _ _ h=>h.2
theorem tab8_of {P:Program} {W:World} {name:String} {g:Nat} {L:List Nat} (h:Lib.TabIs P W name .u32 (L.map fun(n:Nat)=>(n:Int))) (hg:P.globalNamed name=some g) (h8:L.length=8):Tab8 W (fun _=>False) g L:=by
 have hc: ∀i,i<8→W.cell? ⟨g,i,none⟩=some (.int .u32 ((L.getD i 0:Nat):Int)):=fun i hi=>by
  rw[h.cell hg i (by rw[List.length_map];omega),List.getD_eq_getElem?_getD,List.getElem?_map,List.getD_eq_getElem?_getD,List.getElem?_eq_getElem (by omega)]
  rfl
 exact⟨cell_lt (hc 0 (by omega)),fun h=>h,hc⟩
theorem bulk_memK {H:Type}: ∀{l:List (DataW H)} {d:DataW H},d∈l→Rows.uptoBulk d≤Rows.uptoBulkAll l
 |x::r,d,h=>by
  simp only[Rows.uptoBulkAll]
  rcases List.mem_cons.1 h with rfl|h
  ·omega
  ·have:=bulk_memK h;omega
theorem bulk_oneK {H:Type} (d:DataW H):1≤Rows.uptoBulk d:=by
 cases d with
 |lit l=>cases l<;>simp[Rows.uptoBulk]
 |_=>simp[Rows.uptoBulk]
theorem bulk_lenK {H:Type}: ∀l:List (DataW H),l.length≤Rows.uptoBulkAll l
 |[]=>by simp[Rows.uptoBulkAll]
 |d::r=>by
  have h1:=bulk_oneK d
  have h2:=bulk_lenK r
  simp only[Rows.uptoBulkAll,List.length_cons];omega
theorem bytes_trodK {H:Type} {enc:TypeId×Value→H} {P:Program} {w:World} {base:Nat} {sp:Nat→Bool} {hd:Bool} {t e:TypeId} {v:Value} {y:DataW H×List MemPlace} {fuel:Nat}
  (ht:P.underlying t=some (.slice e)) (he:P.underlying e=some (.int .u8)) (hc:P.cellsOf e=1) (hf:DataW.trod enc P w base sp hd fuel t [v]=some y):
  ∃l:List UInt8,Rep w (.bare fun _=>False) (.by l) v∧v.oneCell'=true∧(l=[]∨ ∃es s,y.1= .slice es s∧l.length=es.length):=by
 rcases open_ints ht he hc hf with ⟨hcs,_⟩|⟨x,len0,cap0,zs,hcs,_,hl,hm,hz,hx,hcell,hwz⟩
 ·obtain rfl:v= .slice none 0 0:=by simpa using hcs
  exact⟨[], .sl _ 1 0 _ none 0 0 0 (fun _ _=>undef) rfl (Nat.le_refl _) (fun h=>by omega) (fun i hi=>by omega) (fun i hi=>by omega),rfl, .inl rfl⟩
 ·obtain rfl:v= .slice (some x) len0 cap0:=by simpa using hcs
  have hlz:len0≤zs.length:=by rw[hz];split<;>omega
  have hlen:((zs.take len0).map u8).length=len0:=by simp;omega
  have hlen2:(zs.take len0).length=len0:=by simp;omega
  refine⟨(zs.take len0).map u8,?_,rfl, .inr ⟨lits .u8 (zs.take len0),lits .u8 (zs.drop len0),by rw[hx],by rw[hlen];unfold lits;rw[List.length_map,hlen2]⟩⟩
  have hw: ∀i,i<len0→0≤zs.getD i 0∧zs.getD i 0<256:=fun i hi=>by
   have hmem:zs.getD i 0∈zs:=by rw[List.getD_eq_getElem?_getD,List.getElem?_eq_getElem (by omega)];exact List.getElem_mem _
   have h1:=hwz _ hmem
   simp only[Lit.wf,Bool.and_eq_true,decide_eq_true_eq] at h1
   have e1:IntKind.u8.min=0:=rfl
   have e2:IntKind.u8.max=255:=rfl
   omega
  have hb2: ∀i,i<len0→byteAt ((zs.take len0).map u8) i=zs.getD i 0:=fun i hi=>by
   obtain⟨h1,h2⟩:=hw i hi
   unfold byteAt
   rw[List.getD_eq_getElem?_getD,List.getElem?_map,List.getElem?_take,if_pos hi,List.getElem?_eq_getElem (by omega)]
   rw[List.getD_eq_getElem?_getD,List.getElem?_eq_getElem (by omega)] at h1 h2⊢
   exact u8_toNat _ h1 h2
  by_cases h0:len0=0
  ·subst h0
   exact .sl _ 1 0 (fun i=> .val (.int .u8 (byteAt ((zs.take 0).map u8) i))) (some x) cap0 0 0 (fun _ _=>undef) rfl hl (fun h=>by omega) (fun i hi=>by omega) (fun i hi=>by omega)
  ·obtain⟨b,off,spot⟩:=x
   have hc0:=hcell 0 (by omega)
   have hspot:spot=none:=by simpa [Addr.add] using World.cell?_spot hc0
   subst hspot
   have hcl: ∀i,i<len0→w.cell? ⟨b,off+i,none⟩=some (.int .u8 (zs.getD i 0)):=fun i hi=>by
    have:=hcell i (by omega)
    rwa [addr_add] at this
   refine .sl _ 1 len0 (fun i=> .val (.int .u8 (byteAt ((zs.take len0).map u8) i))) (some ⟨b,off,none⟩) cap0 b off (fun i _=> .int .u8 (zs.getD i 0)) ?_ hl (fun _=>⟨rfl,cell_lt (hcl 0 (by omega)),fun h=>h⟩) (fun i hi j hj=> ?_) (fun i hi j hj=> ?_)
   ·simp only[V.elems,hlen]
   ·obtain rfl:j=0:=by omega
    rw[Nat.mul_one,Nat.add_zero]
    exact⟨hcl i hi,rfl⟩
   ·obtain rfl:j=0:=by omega
    rw[hb2 i hi]
    exact .val _
theorem arg_key {H:Type} {enc:TypeId×Value→H} {P:Program} {w:World} {base b0:Nat} {sp:Nat→Bool} {hd:Bool} {t i0 i1 b c:TypeId} {f0 f1 f2 f3 f4 f5 f6:Field} {v:Value} {d:DataW H} {ps:List MemPlace}
  (hs:P.underlying t=some (.struct #[f0,f1,f2,f3,f4,f5,f6])) (ce:P.cellsOf t=7) (o0:f0.offset=0) (o1:f1.offset=1) (o2:f2.offset=2) (o3:f3.offset=3) (o4:f4.offset=4) (o5:f5.offset=5) (o6:f6.offset=6)
  (e0:f0.type=i0) (e1:f1.type=i1) (e2:f2.type=b) (e3:f3.type=b) (e4:f4.type=b) (e5:f5.type=b) (e6:f6.type=b) (c0:P.cellsOf i0=1) (c1:P.cellsOf i1=1) (cb:P.cellsOf b=1) (u0:P.underlying i0=some (.int .i64)) (u1:P.underlying i1=some (.int .i64)) (ub:P.underlying b=some (.slice c)) (uc:P.underlying c=some (.int .u8)) (cc:P.cellsOf c=1)
  (hval:Value.okWide P w .any b0 t v) (h:DataW.Trod enc P w base sp hd t v d ps) (hbk:Rows.uptoBulk d≤1048576): ∃(kty crv:Int) (s n e x y:List UInt8),keyOk s n e x y∧Rep w (.bare fun _=>False) (keyV kty crv s n e x y) v:=by
 obtain⟨cs,rfl,hcs⟩:=okWide_struct hs hval
 obtain⟨fuel,hf⟩:=h
 obtain⟨xs,nn,_,hx,hl,hlen,hfd⟩:=DataW.trod_struct hs hf
 rw[ce] at hcs
 have hd:d= .agg (xs.map (·.1)):=(Prod.mk.inj hx).1
 rw[hd,Rows.uptoBulk] at hbk
 match cs,hcs with
 |⟨[v0,v1,v2,v3,v4,v5,v6]⟩,_=>
  have hlen:xs.length=7:=by simpa using hlen
  obtain⟨y0,y1,y2,y3,y4,y5,y6,rfl⟩: ∃y0 y1 y2 y3 y4 y5 y6,xs=[y0,y1,y2,y3,y4,y5,y6]:=by
   match xs,hlen with
   |[y0,y1,y2,y3,y4,y5,y6],_=>exact⟨_,_,_,_,_,_,_,rfl⟩
  ·skip
   have t0:=hfd 0 f0 rfl
   have t1:=hfd 1 f1 rfl
   have t2:=hfd 2 f2 rfl
   have t3:=hfd 3 f3 rfl
   have t4:=hfd 4 f4 rfl
   have t5:=hfd 5 f5 rfl
   have t6:=hfd 6 f6 rfl
   simp only[Value.cells,o0,o1,o2,o3,o4,o5,o6,e0,e1,e2,e3,e4,e5,e6,c0,c1,cb,List.drop_zero,List.drop_succ_cons,List.take_succ_cons,List.take_zero,List.getElem?_cons_zero,List.getElem?_cons_succ] at t0 t1 t2 t3 t4 t5 t6
   obtain⟨m0,h0,_⟩:=DataW.trod_int u0 t0
   obtain⟨m1,h1,_⟩:=DataW.trod_int u1 t1
   obtain rfl:v0= .int .i64 m0:=by simpa using h0
   obtain rfl:v1= .int .i64 m1:=by simpa using h1
   obtain⟨l2,r2,q2,z2⟩:=bytes_trodK ub uc cc t2
   obtain⟨l3,r3,q3,z3⟩:=bytes_trodK ub uc cc t3
   obtain⟨l4,r4,q4,z4⟩:=bytes_trodK ub uc cc t4
   obtain⟨l5,r5,q5,z5⟩:=bytes_trodK ub uc cc t5
   obtain⟨l6,r6,q6,z6⟩:=bytes_trodK ub uc cc t6
   have big: ∀(l:List UInt8) (y:DataW H×List MemPlace),y∈[y0,y1,y2,y3,y4,y5,y6]→(l=[]∨ ∃es s,y.1= .slice es s∧l.length=es.length)→l.length≤16777216:=fun l y hy hz=>by
    rcases hz with rfl|⟨es,sl,hz,hle⟩
    ·simp
    ·have h1:=bulk_memK (List.mem_map_of_mem (f:=(·.1)) hy)
     rw[hz,Rows.uptoBulk] at h1
     have h2:=bulk_lenK es
     omega
   refine⟨m0,m1,l2,l3,l4,l5,l6,⟨big l2 y2 (by simp) z2,big l3 y3 (by simp) z3,big l4 y4 (by simp) z4,big l5 y5 (by simp) z5,big l6 y6 (by simp) z6⟩, .st _ _ (fun j=>[.int .i64 m0, .int .i64 m1,v2,v3,v4,v5,v6].getD j undef) rfl (fun j hj=> ?_) (fun j hj=> ?_)⟩
   ·have:j=0∨j=1∨j=2∨j=3∨j=4∨j=5∨j=6:=by simp at hj;omega
    rcases this with rfl|rfl|rfl|rfl|rfl|rfl|rfl
    ·exact⟨rfl,rfl⟩
    ·exact⟨rfl,rfl⟩
    ·exact⟨rfl,q2⟩
    ·exact⟨rfl,q3⟩
    ·exact⟨rfl,q4⟩
    ·exact⟨rfl,q5⟩
    ·exact⟨rfl,q6⟩
   ·have:j=0∨j=1∨j=2∨j=3∨j=4∨j=5∨j=6:=by simp at hj;omega
    rcases this with rfl|rfl|rfl|rfl|rfl|rfl|rfl
    ·exact .val _
    ·exact .val _
    ·exact r2
    ·exact r3
    ·exact r4
    ·exact r5
    ·exact r6
end Go.Proofs.YtfengpdaocgcnaaGreatDoor
