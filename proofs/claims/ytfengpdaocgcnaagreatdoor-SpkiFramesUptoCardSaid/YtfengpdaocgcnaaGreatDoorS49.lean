/- The law on keys: are they the same; the law's start. What a statement's arguments read as. How long an argument's bytes are, by its reading. What an element that came in reads as. What a key that came in reads as; the tables of Ed25519's numbers that the program's text lays. A frame with another byte is none. Plain Lean. -/
import Derived.Test.YtfengpdaocgcnaaGreatDoorQ33
import Derived.Test.YtfengpdaocgcnaaGreatDoorS47
import Derived.Test.YtfengpdaocgcnaaGreatDoorS48
import Derived.Test.YtfengpdaocgcnaaGreatDoorQ34
import Derived.WalkKit
import Derived.ProofKit
import Derived.OpenShut
import Derived.Deep.Slices
import Derived.SizedLaws
import Derived.Stop.LaidErr
import Derived.Lib.LaidTab
import Derived.Test.YtfengpdaocgcnaaGreatDoorRows
import Derived.Test.YtfengpdaocgcnaaGreatDoorQ35
import Derived.Deep.Strs
import Derived.Lib.LaidU8
namespace Go.Proofs.YtfengpdaocgcnaaGreatDoor
open Nat (reduceMul reduceLeDiff reduceEqDiff reduceLT reduceAdd reduceSub reduceDiv)
open Int (reduceToNat reducePow)
open Go.RowKit
set_option linter.unusedSimpArgs false
set_option maxRecDepth 100000
def LKaf:FuncId→List V→CR:=fun f args=>tab [(13,cY fun a=>cY fun b=>cF [a.length≤140737488355328] false (.bb (a==b)))] noF f args
def LKa (J:Inv):Sig:=⟨J,sdf,LKaf,noH,0⟩
theorem LKa_ok (J:Inv):SigOk Tryz.prog (LKa J):= .plain (tab_ok (.c (.y fun a=> .y fun b=> .z fun⟨c0,_⟩=>sameBytes_fn J a b c0)<| .n) noF_ok)
def skB (k l:Ky):Bool:=k.kty==l.kty&&k.crv==l.crv&&k.s==l.s&&k.n==l.n&&k.e==l.e&&k.x==l.x&&k.y==l.y
theorem skB_self (k:Ky):skB k k=true:=by simp[skB]
theorem same_fn (J:Inv) (k l:Ky) (hk:k.Ok):Fn Tryz.prog J 21 false [k.V,l.V] (.bb (skB k l)):=by
 rcases k with ⟨a,b,s,n,e,x,y⟩
 rcases l with ⟨a',b',s',n',e',x',y'⟩
 obtain⟨h1,h2,h3,h4,h5⟩:=hk
 simp only at h1 h2 h3 h4 h5
 refine fnI Tryz.func21 rfl (by kernel_rfl) rfl (LKa_ok J) ?_
 unfold Tryz.f21
 simp only[↓bD,bQ,reduceMul,reduceLeDiff,reduceEqDiff,reduceLT,reduceAdd,reduceSub,↓reduceIte,reduceCtorEq,reduceToNat,reducePow,Nat.reduceBEq,reduceDiv,LKa,LKaf,Ky.V,keyV]
 exact⟨fun _=>by omega,fun _=>by omega,fun _=>by omega,fun _=>by omega,fun _=>by omega,rfl⟩
theorem gx_bys:beN gx=bys 32 gx∧beN gy=bys 32 gy:=by
 have h:=gx_len
 rw[beN_len,beN_len] at h
 unfold beN
 rw[h.1,h.2]
 exact⟨rfl,rfl⟩
theorem k0_els:k0.els=[⟨48,[],2⟩,⟨48,[],2⟩,⟨6,[42,134,72,206,61,2,1],0⟩,⟨6,[42,134,72,206,61,3,1,7],0⟩,⟨3,0::4::(bys 32 gx++bys 32 gy),0⟩]:=by
 unfold Ky.els k0
 rw[if_neg (by decide),if_pos rfl,gx_bys.1,gx_bys.2]
 unfold elemF algE cvN
 rw[if_neg (by decide),nm_ec.2,nm_256.2]
 rfl
theorem k0_good:k0.good=true:=by
 unfold Ky.good k0 goodK
 rw[if_neg (by decide),if_neg (by decide),if_pos rfl]
 unfold crvOk gOk
 rw[if_pos rfl,beN_nb,beN_nb,gx_len.1,gx_len.2,g_on]
 rfl
theorem k0_ok:k0.Ok:=⟨by simp[k0],by simp[k0],by simp[k0],by show(beN gx).length≤_;rw[gx_len.1];omega,by show(beN gy).length≤_;rw[gx_len.2];omega⟩
theorem k0_print:(printF k0.els).1.length=91∧byteAt (printF k0.els).1 0=48∧byteAt (printF k0.els).1 26=4:=by
 rw[k0_els]
 exact⟨by kernel_rfl,by kernel_rfl,by kernel_rfl⟩
theorem pemL_len: ∀n,∀s:List UInt8,s.length≤n→(pemL s).length≤2*s.length
 |0,s,hn=>by
  obtain rfl:s=[]:=List.length_eq_zero_iff.1 (by omega)
  rw[pemL_nil]
  exact Nat.zero_le _
 |n+1,s,hn=>by
  by_cases hs:s=[]
  ·subst hs;rw[pemL_nil];exact Nat.zero_le _
  ·have hp:=List.length_pos_iff.2 hs
   have:=pemL_len n (s.drop 64) (by rw[List.length_drop];omega)
   rw[pemL_ne hs]
   simp only[List.length_append,List.length_cons,List.length_take,List.length_drop] at this⊢
   omega
theorem pem_len (k:Ky):k.pem.1.length≤16777216:=by
 have h1:=enc_len (pr_len k)
 unfold Ky.pem
 split
 ·have h2:=pemL_len _ (encF stdS k.pr.1) (Nat.le_refl _)
  have e1:beginN.length=27:=rfl
  have e2:endN.length=25:=rfl
  unfold pemF
  simp only[List.length_append,e1,e2]
  omega
 ·exact Nat.zero_le _
theorem z0_good:z0.good=false:=by rfl
def LKbf:FuncId→List V→CR:=fun f args=>tab [(42,cI .i64 fun c=>cF [c=1] false k0.V),
 (9,cK fun k=>cF [k.Ok] false (.tu [.by k.pr.1, .i k.pr.2])),
 (19,cY fun b=>cF [b.length≤140737488355328] false (.tu [(parK b).1.V, .i (parK b).2])),
 (10,cK fun k=>cF [k.Ok] false (.tu [.str k.pem.1, .i k.pem.2])),
 (20,cS fun t=>cF [t.length≤16777216] false (.tu [(unF t).1.V, .i (unF t).2])),
 (18,cK fun k=>cF [k.Ok] false (.i (chkC k.good))),
 (21,cKK fun k=>cF [k.1.Ok] false (.bb (skB k.1 k.2)))] LKaf f args
def LKb (J:Inv):Sig:=⟨J,sdf,LKbf,noH,0⟩
theorem LKb_ok (J:Inv) (hJ: ∀w F,J.I w F→JV.I w F) (hE:EdT J):SigOk Tryz.prog (LKb J):= .plain (tab_ok (.c (.i fun _=> .z fun⟨c0,_⟩=>(by rw[c0];exact base_fn J))<|
 .c (.k fun k=> .z fun⟨c0,_⟩=>sprint_fn J hJ hE k c0)<|
 .c (.y fun b=> .z fun⟨c0,_⟩=>sparse_fn J hJ hE b c0)<|
 .c (.k fun k=> .z fun⟨c0,_⟩=>spem_fn J hJ hE k c0)<|
 .c (.s fun t=> .z fun⟨c0,_⟩=>sunpem_fn J hJ hE t c0)<|
 .c (.k fun _=> .z fun⟨c0,_⟩=>check_fn J hE _ _ _ _ _ _ _ c0.s c0.n c0.e c0.x c0.y)<|
 .c (.kk fun k=> .z fun⟨c0,_⟩=>same_fn J k.1 k.2 c0)<| .n) (LKa_ok J).1)
theorem started_own (J:Inv) (hJ: ∀w F,J.I w F→JV.I w F) (hE:EdT J):FnH Tryz.prog J 17 [] [] 0 (.bb true) [] 3:=by
 have k0V:k0.V= .st [.i 3, .i 1, .by [], .by [], .by [], .by (beN gx), .by (beN gy)]:=rfl
 have k0E:(⟨3,1,[],[],[],beN gx,beN gy⟩:Ky)=k0:=rfl
 have z0E:(⟨0,0,[],[],[],[],[]⟩:Ky)=z0:=rfl
 obtain⟨h1,h2,h3,h4⟩:=back k0 k0_good (by decide)
 obtain⟨h5,h6⟩:=back_pem k0 k0_good (by decide)
 obtain⟨h7,h8,h9⟩:=k0_print
 rw[←h4] at h7 h8 h9
 have hl:=pem_len k0
 have hg:chkC k0.good=0:=by rw[k0_good];rfl
 have hz:chkC z0.good=90:=by rw[z0_good];rfl
 have hs:skB k0 k0=true:=skB_self _
 have ho:=k0_ok
 have zo:=z0_ok
 generalize hR:k0.pr=R at *
 generalize hM:k0.pem=M at *
 refine fnJ Tryz.func17 rfl (by kernel_rfl) (LKb_ok J hJ hE) rfl ?_
 unfold Tryz.f17
 have e91:((91:Nat):Int)=91:=rfl
 have e92:((91:Int)==91)=true:=rfl
 have e93:((48:Int)==48)=true:=rfl
 have e94:((4:Int)==4)=true:=rfl
 have e95:((0:Int)==0)=true:=rfl
 have e96:((90:Int)==90)=true:=rfl
 simp only[↓bD,bQ,reduceMul,reduceLeDiff,reduceEqDiff,reduceLT,reduceAdd,reduceSub,↓reduceIte,reduceCtorEq,reduceToNat,reducePow,Nat.reduceBEq,reduceDiv,LKb,LKbf,LKaf,cK,cKK,keyW,byN,k0V,k0E,z0E,h1,h2,h5,h6,h7,h8,h9,hg,hz,hs,hR,hM,e91,e92,e93,e94,e95,e96]
 repeat' with_reducible apply And.intro
 all_goals first|exact ho|exact hl|(intro _;first|exact ho|exact zo|omega)|(refine RenC.skip ?_;simp only[↓bD,bQ,reduceMul,reduceLeDiff,reduceEqDiff,reduceLT,reduceAdd,reduceSub,↓reduceIte,reduceCtorEq,reduceToNat,reducePow,Nat.reduceBEq,reduceDiv])
theorem started_fn (J:Inv) (hJ: ∀w F,J.I w F→JV.I w F) (hE:EdT J):Fn Tryz.prog J 17 false [] (.bb true):=Fn.of_plain (started_own J hJ hE) rfl
open Go.ChangeShapes Go.WideShapes Go.ChangeAt Go.RowKit
theorem cell_lt {w:World} {a:Addr} {v:Value} (h:w.cell? a=some v):a.block<w.heap.size:=by
 rcases Nat.lt_or_ge a.block w.heap.size with h1|h1
 ·exact h1
 ·have:w.heap[a.block]?=none:=Array.getElem?_eq_none h1
  unfold World.cell? at h
  rw[this] at h
  simp at h
theorem arg_bytes {H:Type} {enc:TypeId×Value→H} {P:Program} {w:World} {base b0:Nat} {sp:Nat→Bool} {hd:Bool} {t e:TypeId} {v:Value} {d:DataW H} {ps:List MemPlace} {ts:List TypeId} {ds:List (DataW H)} {j:Nat}
  (ht:P.underlying t=some (.slice e)) (he:P.underlying e=some (.int .u8)) (hc:P.cellsOf e=1) (hb:P.bytesOf e=1) (hval:Value.okWide P w .any b0 t v) (h:DataW.Trod enc P w base sp hd t v d ps)
  (hsz:(DataW.weightsEach P ts ds).all (· ≤reachBytes)=true) (hj:ts[j]?=some t) (hdj:ds[j]?=some d): ∃l:List UInt8,l.length≤140737488351232∧Rep w (.bare fun _=>False) (.by l) v:=by
 obtain⟨a0,len0,cap0,rfl⟩:=okWide_slice ht hval
 obtain⟨fuel,hf⟩:=h
 rcases open_ints ht he hc hf with ⟨hcs,_⟩|⟨x,l,c,zs,hcs,_,hl,hm,hz,hx,hcell,hwz⟩
 ·simp[Value.cells] at hcs
  obtain⟨rfl,rfl,rfl⟩:=hcs
  refine⟨[],by simp, .sl _ 1 0 _ none 0 0 0 (fun _ _=>undef) rfl (Nat.le_refl _) (fun h=>by omega) (fun i hi=>by omega) (fun i hi=>by omega)⟩
 ·simp[Value.cells] at hcs
  obtain⟨rfl,rfl,rfl⟩:=hcs
  have hlz:len0≤zs.length:=by rw[hz];split<;>omega
  obtain⟨hd1,_⟩:=Prod.mk.inj hx
  subst hd1
  have hs:=sized_slice hsz hj hdj ht
  rw[hb,Nat.mul_one] at hs
  have hlen:((zs.take len0).map u8).length=len0:=by simp;omega
  refine⟨(zs.take len0).map u8,?_,?_⟩
  ·rw[hlen]
   have e1:(lits (H:=H) .u8 (zs.take len0)).length=len0:=by unfold lits;simp;omega
   have:reachBytes=140737488351232:=rfl
   omega
  ·have hw: ∀i,i<len0→0≤zs.getD i 0∧zs.getD i 0<256:=fun i hi=>by
    have hmem:zs.getD i 0∈zs:=by rw[List.getD_eq_getElem?_getD,List.getElem?_eq_getElem (by omega)];exact List.getElem_mem _
    have h1:=hwz _ hmem
    simp only[Lit.wf,Bool.and_eq_true,decide_eq_true_eq] at h1
    have e1:IntKind.u8.min=0:=rfl
    have e2:IntKind.u8.max=255:=rfl
    omega
   have hb2: ∀i,i<len0→byteAt ((zs.take len0).map u8) i=zs.getD i 0:=fun i hi=>by
    obtain⟨h1,h2⟩:=hw i hi
    unfold byteAt
    rw[List.getD_eq_getElem?_getD,List.getElem?_map,List.getElem?_take,if_pos hi,List.getElem?_eq_getElem (by omega)]
    rw[List.getD_eq_getElem?_getD,List.getElem?_eq_getElem (by omega)] at h1 h2⊢
    exact u8_toNat _ h1 h2
   by_cases h0:len0=0
   ·subst h0
    exact .sl _ 1 0 (fun i=> .val (.int .u8 (byteAt ((zs.take 0).map u8) i))) (some x) cap0 0 0 (fun _ _=>undef) rfl hl (fun h=>by omega) (fun i hi=>by omega) (fun i hi=>by omega)
   ·obtain⟨b,off,spot⟩:=x
    have hc0:=hcell 0 (by omega)
    have hspot:spot=none:=by simpa [Addr.add] using World.cell?_spot hc0
    subst hspot
    have hcl: ∀i,i<len0→w.cell? ⟨b,off+i,none⟩=some (.int .u8 (zs.getD i 0)):=fun i hi=>by
     have:=hcell i (by omega)
     rwa [addr_add] at this
    refine .sl _ 1 len0 (fun i=> .val (.int .u8 (byteAt ((zs.take len0).map u8) i))) (some ⟨b,off,none⟩) cap0 b off (fun i _=> .int .u8 (zs.getD i 0)) ?_ hl (fun _=>⟨rfl,cell_lt (hcl 0 (by omega)),fun h=>h⟩) (fun i hi j hj=> ?_) (fun i hi j hj=> ?_)
    ·simp only[V.elems,hlen]
    ·obtain rfl:j=0:=by omega
     rw[Nat.mul_one,Nat.add_zero]
     exact⟨hcl i hi,rfl⟩
    ·obtain rfl:j=0:=by omega
     rw[hb2 i hi]
     exact .val _
theorem inv_of_tab {P:Program} {W:World} {g:Nat} {nm:String} {k:IntKind} {zs:List Int} (hg:P.globalNamed nm=some g) (h:Lib.TabIs P W nm k zs):(tabInv P [(nm,k,zs)]).I W fun _=>False:=by
 intro t ht
 obtain rfl:=List.mem_singleton.1 ht
 refine⟨h,g,hg,?_,fun h=>h⟩
 unfold Lib.TabIs World.var? at h
 rw[hg] at h
 simp only[Option.bind_some] at h
 rcases Nat.lt_or_ge g W.heap.size with h1|h1
 ·exact h1
 ·rw[Array.getElem?_eq_none h1] at h;simp at h
open Go.ChangeShapes Go.WideShapes Go.ChangeAt Go.RowKit
theorem arg_len {H:Type} {enc:TypeId×Value→H} {P:Program} {w:World} {base:Nat} {sp:Nat→Bool} {hd:Bool} {t e:TypeId} {a0:Option Addr} {len0 cap0:Nat} {d:DataW H} {ps:List MemPlace}
  (ht:P.underlying t=some (.slice e)) (h:DataW.Trod enc P w base sp hd t (.slice a0 len0 cap0) d ps):len0=0∨ ∃es sp,d= .slice es sp∧es.length=len0:=by
 obtain⟨fuel,hf⟩:=h
 rcases _root_.Go.Deep.open_slice ht hf with ⟨hcs,_⟩|⟨x,l,c,m,n,D,Pl,hcs,_,hl,hm,hmm,hx,_⟩
 ·simp[Value.cells] at hcs
  exact .inl hcs.2.1
 ·simp[Value.cells] at hcs
  obtain⟨rfl,rfl,rfl⟩:=hcs
  obtain⟨hd1,_⟩:=Prod.mk.inj hx
  exact .inr ⟨_,_,hd1,by simp⟩
theorem rep_len {w:World} {F:Cx} {l:List UInt8} {a0:Option Addr} {len0 cap0:Nat} (h:Rep w F (.by l) (.slice a0 len0 cap0)):l.length=len0:=by
 obtain⟨A,cap,b,off,u,he,_⟩:=rep_sl (x:= .by l) rfl h
 simp only[Value.slice.injEq] at he
 exact he.2.1.symm
theorem bulk_one {H:Type} (d:DataW H):1≤Rows.uptoBulk d:=by
 cases d with
 |lit l=>cases l<;>simp[Rows.uptoBulk]
 |_=>simp[Rows.uptoBulk]
theorem bulk_len {H:Type}: ∀l:List (DataW H),l.length≤Rows.uptoBulkAll l
 |[]=>by simp[Rows.uptoBulkAll]
 |d::r=>by
  have h1:=bulk_one d
  have h2:=bulk_len r
  simp only[Rows.uptoBulkAll,List.length_cons];omega
theorem bulk_slice {H:Type} (es sp:List (DataW H)):es.length≤Rows.uptoBulk (.slice es sp):=by
 have:=bulk_len es
 simp only[Rows.uptoBulk];omega
open Go.ChangeShapes Go.WideShapes Go.ChangeAt Go.RowKit
theorem iface_cell {P:Program} {W:World} {n:String} {nm:String} {d:DataW Unit} {g:Nat} {t:TypeId} {ms:Array (String×TypeId)} (h:Lib.VarReads P W n (.iface nm d)) (hg:P.globalNamed n=some g) (hty:(P.globals[g]?).map (·.type)=some t) (ht:P.underlying t=some (.interface ms)):
  ErrAt W g:=by
 obtain⟨g',t',cs,fuel,p,hg',hty',hvar,hd⟩:=h
 obtain rfl:=Option.some.inj (hg.symm.trans hg')
 obtain rfl:=Option.some.inj (hty.symm.trans hty')
 have hc: ∃u v,cs.toList=[.iface u v]:=by
  cases fuel with
  |zero=>simp[DataW.trod] at hd
  |succ k=>
   unfold DataW.trod at hd
   rw[ht] at hd
   split at hd<;>simp_all
 obtain⟨u,v,hc⟩:=hc
 refine⟨.iface u v,?_, .inr ⟨u,v,rfl⟩⟩
 rw[World.var?_cell hg' hvar 0,←Array.getElem?_toList,hc]
 rfl
open Go.ChangeShapes Go.WideShapes Go.ChangeAt Go.RowKit
theorem cell_keepE {w w':World} {b:Nat} (e:w'.heap[b]?=w.heap[b]?) (o:Nat):w'.cell? ⟨b,o,none⟩=w.cell? ⟨b,o,none⟩:=by
 simp only[World.cell?,e]
structure Tab8 (w:World) (F:Nat→Prop) (g:Nat) (L:List Nat):Prop where
 lt:g<w.heap.size
 fr: ¬F g
 at': ∀i,i<8→w.cell? ⟨g,i,none⟩=some (.int .u32 ((L.getD i 0:Nat):Int))
theorem Tab8.out {w w':World} {F F':Nat→Prop} {g:Nat} {L:List Nat} (h:Tab8 w F g L) (hs:w.heap.size≤w'.heap.size) (hb: ∀b,b<w.heap.size→ ¬F b→w'.heap[b]?=w.heap[b]?) (hF: ∀b,F' b→F b∨w.heap.size≤b):Tab8 w' F' g L:=
 ⟨Nat.lt_of_lt_of_le h.lt hs,fun hf=>(hF _ hf).elim h.fr fun h2=>by have:=h.lt;omega,fun i hi=>(cell_keepE (hb _ h.lt h.fr) _).trans (h.at' i hi)⟩
def JE:Inv where
 I:=fun w F=>Tab8 w F 0 primeL∧Tab8 w F 2 curveL∧Tab8 w F 3 rootL
 out:=fun{w w' F F'} h hs hb hF=>⟨h.1.out hs hb hF,h.2.1.out hs hb hF,h.2.2.out hs hb hF⟩
 gl:=⟨fun g=>if g=0 then some (.pe (.sq 8 .any [.st (wds primeL)]) 0 0) else if g=2 then some (.pe (.sq 8 .any [.st (wds curveL)]) 0 0) else if g=3 then some (.pe (.sq 8 .any [.st (wds rootL)]) 0 0) else none,none,fun _ _ _=>none⟩
 lkOk:=fun _ _ _ _ _ h=>by cases h
 glOk:=fun{w F} g v hg h O W=>by
  have key: ∀L:List Nat,L.length=8→Tab8 w F g L→Rep w ⟨F,O,W⟩ (.pe (.sq 8 .any [.st (wds L)]) 0 0) (.pointer (some ⟨g,0,none⟩)):=fun L h8 ht=>by
   refine .pe _ 8 1 (fun i=>[V.st (wds L)].getD i .any) 0 0 g 0 (fun _ j=> .int .u32 ((L.getD j 0:Nat):Int)) rfl (by omega) ht.lt ht.fr (fun i hi j hj=> ?_) (fun i hi j hj=> ?_)
   ·obtain rfl:i=0:=by omega
    rw[show 0+(0*8+j)=j by omega]
    exact⟨ht.at' j hj,rfl⟩
   ·obtain rfl:i=0:=by omega
    have e:(V.st (wds L)).cell j= .val (.int .u32 ((L.getD j 0:Nat):Int)):=by
     show(wds L).getD j .any=_
     rw[List.getD_eq_getElem?_getD,List.getElem?_eq_getElem (by rw[wds_len];omega),Option.getD_some,←wds_get,List.getD_eq_getElem?_getD,List.getElem?_eq_getElem (by rw[wds_len];omega),Option.getD_some]
    show Rep _ _ ((V.st (wds L)).cell j) _
    rw[e]
    exact .val _
  have hg:(if g=0 then some (V.pe (.sq 8 .any [.st (wds primeL)]) 0 0) else if g=2 then some (V.pe (.sq 8 .any [.st (wds curveL)]) 0 0) else if g=3 then some (V.pe (.sq 8 .any [.st (wds rootL)]) 0 0) else none)=some v:=hg
  split at hg
  ·rename_i hgg
   subst hgg
   obtain rfl:=Option.some.inj hg
   exact key primeL rfl h.1
  ·split at hg
   ·rename_i hgg
    subst hgg
    obtain rfl:=Option.some.inj hg
    exact key curveL rfl h.2.1
   ·split at hg
    ·rename_i hgg
     subst hgg
     obtain rfl:=Option.some.inj hg
     exact key rootL rfl h.2.2
    ·cases hg
noncomputable def JX:Inv where
 I:=fun w F=>JE.I w F∧JV.I w F
 out:=fun h hs hb hF=>⟨JE.out h.1 hs hb hF,JV.out h.2 hs hb hF⟩
 gl:=JE.gl
 lkOk:=fun P t m s z h1 h2 h3=>JE.lkOk P t m s z h1 h2 h3.1
 glOk:=fun g v h1 h2=>JE.glOk g v h1 h2.1
theorem edT_JX:EdT JX:=⟨rfl,rfl,rfl⟩
theorem jv_JX: ∀w F,JX.I w F→JV.I w F:=fun _ _ h=>h.2
theorem tab8_of {P:Program} {W:World} {name:String} {g:Nat} {L:List Nat} (h:Lib.TabIs P W name .u32 (L.map fun(n:Nat)=>(n:Int))) (hg:P.globalNamed name=some g) (h8:L.length=8):Tab8 W (fun _=>False) g L:=by
 have hc: ∀i,i<8→W.cell? ⟨g,i,none⟩=some (.int .u32 ((L.getD i 0:Nat):Int)):=fun i hi=>by
  rw[h.cell hg i (by rw[List.length_map];omega),List.getD_eq_getElem?_getD,List.getElem?_map,List.getD_eq_getElem?_getD,List.getElem?_eq_getElem (by omega)]
  rfl
 exact⟨cell_lt (hc 0 (by omega)),fun h=>h,hc⟩
theorem unF_pre {t:List UInt8} (h:Lib.hasPrefix t beginN=false):unF t=(z0,92):=by
 unfold unF
 rw[if_pos (by rw[h];rfl)]
theorem unF_suf {X:List UInt8} (h:Lib.hasSuffix X endN=false):unF (beginN++X)=(z0,92):=by
 unfold unF
 rw[if_pos (by rw[(trimP_app beginN X).2,h];simp)]
theorem unF_body {B:List UInt8} (h:unP B=none):unF (beginN++(B++endN))=(z0,92):=by
 unfold unF
 rw[(trimP_app beginN (B++endN)).2,(trimS_app endN B).2]
 split
 ·rfl
 ·rw[h]
theorem suf_last {X:List UInt8} {c:UInt8} (h:X.getLast?=some c) (hc:c≠10):Lib.hasSuffix X endN=false:=by
 rw[Bool.eq_false_iff]
 intro e
 unfold Lib.hasSuffix at e
 rw[List.isSuffixOf_iff_suffix] at e
 obtain⟨r,rfl⟩:=e
 rw[List.getLast?_append] at h
 have h10:endN.getLast?=some 10:=rfl
 rw[h10] at h
 exact hc (Option.some.inj h).symm
theorem endN_eq:endN=endN.take 24++[10]:=rfl
theorem frame_nl (b:List UInt8):unF (pemF b++[10])=(z0,92):=by
 unfold pemF
 rw[List.append_assoc]
 refine unF_suf ?_
 rw[Bool.eq_false_iff]
 intro e
 unfold Lib.hasSuffix at e
 rw[List.isSuffixOf_iff_suffix] at e
 obtain⟨r,hr⟩:=e
 rw[endN_eq,←List.append_assoc] at hr
 have h1:=(List.append_inj' hr rfl).1
 have h2:(r++endN.take 24).getLast?=some 45:=by rw[List.getLast?_append];rfl
 rw[h1,←List.append_assoc,List.getLast?_append] at h2
 exact absurd (Option.some.inj h2) (by decide)
theorem frame_blank (b:List UInt8):unF (32::pemF b)=(z0,92):=unF_pre (by unfold pemF;rfl)
theorem frame_cut (b:List UInt8):unF ((pemF b).take ((pemF b).length-1))=(z0,92):=by
 have e:(pemF b).take ((pemF b).length-1)=beginN++(pemL (encF stdS b)++endN.take 24):=by
  have e1:pemF b=(beginN++(pemL (encF stdS b)++endN.take 24))++[10]:=by
   unfold pemF
   conv=>lhs;rw[endN_eq]
   simp only[List.append_assoc]
  rw[e1,List.length_append,List.length_singleton,Nat.add_sub_cancel,List.take_left]
 rw[e]
 refine unF_suf (suf_last (c:=45) ?_ (by decide))
 rw[List.getLast?_append]
 rfl
theorem cutN_bad {X:List UInt8} {L R:List UInt8} {c:UInt8} (hX:X=L++c::R) (h:(10:UInt8)∉L) (hc:c≠10) (hl:R=[]∨L.length=64):badL (cutN X)=true:=by
 subst hX
 have h2:(10:UInt8)∉L++[c]:=by
  rw[List.mem_append]
  rintro(h3|h3)
  ·exact h h3
  ·exact hc (List.mem_singleton.1 h3).symm
 rw[show L++c::R=(L++[c])++R by simp]
 unfold cutN badL
 split
 ·rename_i hm
  rcases hl with rfl|hl
  ·rw[List.append_nil] at hm;exact absurd hm h2
  ·have hi:((L++[c])++R).idxOf 10≥65:=by
    rw[List.idxOf_append,if_neg h2,List.length_append,List.length_singleton];omega
   have hlt:=List.idxOf_lt_length_of_mem hm
   have e:decide ((64:Int)<((((L++[c])++R).take (((L++[c])++R).idxOf 10)).length:Int))=true:=by
    rw[decide_eq_true_eq,List.length_take];omega
   simp only[e,Bool.or_true,Bool.true_or]
 ·rfl
theorem unP_break (c:UInt8) (hc:c≠10): ∀n,∀a:List UInt8,a.length≤n→(∀x∈a,x≠10)→ ∀j,(pemL a)[j]?=some 10→unP ((pemL a).set j c)=none
 |0,a,hn,_,j,hj=>by
  obtain rfl:a=[]:=List.length_eq_zero_iff.1 (by omega)
  rw[pemL_nil] at hj;simp at hj
 |n+1,a,hn,ha,j,hj=>by
  by_cases h0:a=[]
  ·subst h0;rw[pemL_nil] at hj;simp at hj
  have hp:=List.length_pos_iff.2 h0
  have hL:(10:UInt8)∉a.take 64:=fun hm=>ha 10 (List.mem_of_mem_take hm) rfl
  have ih:=unP_break c hc n (a.drop 64) (by rw[List.length_drop];omega) fun x hx=>ha x (List.mem_of_mem_drop hx)
  have hR:pemL (a.drop 64)=[]∨(a.take 64).length=64:=by
   rw[pemL_eq,List.drop_eq_nil_iff,List.length_take];omega
  rw[pemL_ne h0] at hj⊢
  generalize a.take 64=L at *
  generalize pemL (a.drop 64)=R at *
  rcases Nat.lt_trichotomy j L.length with h1|h1|h1
  ·rw[List.getElem?_append_left h1] at hj
   exact absurd (List.mem_of_getElem? hj) hL
  ·subst h1
   rw[List.set_append_right _ _ (Nat.le_refl _),Nat.sub_self,List.set_cons_zero,unP_ne (by simp),if_pos (cutN_bad rfl hL hc hR)]
  ·rw[List.getElem?_append_right (by omega),show j-L.length=(j-L.length-1)+1 by omega,List.getElem?_cons_succ] at hj
   rw[List.set_append_right _ _ (by omega),show j-L.length=(j-L.length-1)+1 by omega,List.set_cons_succ,unP_ne (by simp),cutN_app hL]
   split
   ·rfl
   ·rw[ih _ hj];rfl
theorem frame_byte (b:List UInt8) {j:Nat} (hj:j<(pemF b).length) {c:UInt8} (hc:(pemF b)[j]?≠some c) (hf:j<27∨(pemF b).length-25≤j∨(pemF b)[j]?=some 10):unF ((pemF b).set j c)=(z0,92):=by
 have e1:beginN.length=27:=rfl
 have e2:endN.length=25:=rfl
 by_cases h1:j<27
 ·refine unF_pre ?_
  rw[Bool.eq_false_iff]
  intro e
  unfold Lib.hasPrefix at e
  rw[List.isPrefixOf_iff_prefix] at e
  obtain⟨r,hr⟩:=e
  have h2:((pemF b).set j c)[j]?=some c:=by rw[List.getElem?_set_self hj]
  rw[←hr,List.getElem?_append_left (by omega)] at h2
  refine hc ?_
  unfold pemF
  rw[List.getElem?_append_left (by omega),h2]
 have hlen:(pemF b).length=27+((pemL (encF stdS b)).length+25):=by unfold pemF;rw[List.length_append,List.length_append,e1,e2]
 have hset:(pemF b).set j c=beginN++(pemL (encF stdS b)++endN).set (j-27) c:=by
  unfold pemF
  rw[List.set_append_right _ _ (by omega),e1]
 have hget:(pemF b)[j]?=(pemL (encF stdS b)++endN)[j-27]?:=by
  unfold pemF
  rw[List.getElem?_append_right (by omega),e1]
 rw[hset]
 rw[hget] at hc hf
 by_cases h2:j-27<(pemL (encF stdS b)).length
 ·rw[List.set_append_left _ _ h2]
  rw[List.getElem?_append_left h2] at hc hf
  have h10:(pemL (encF stdS b))[j-27]?=some 10:=by
   rcases hf with hf|hf|hf
   ·omega
   ·omega
   ·exact hf
  exact unF_body (unP_break c (fun e=>hc (by rw[h10,e])) _ _ (Nat.le_refl _) (enc_no10 b) _ h10)
 ·refine unF_suf ?_
  rw[Bool.eq_false_iff]
  intro e
  unfold Lib.hasSuffix at e
  rw[List.isSuffixOf_iff_suffix] at e
  obtain⟨r,hr⟩:=e
  rw[List.set_append_right _ _ (by omega)] at hr
  have h3:=(List.append_inj' hr (by rw[List.length_set])).2
  rw[List.getElem?_append_right (by omega)] at hc
  refine hc ?_
  rw[h3,List.getElem?_set_self (by omega)]
end Go.Proofs.YtfengpdaocgcnaaGreatDoor
