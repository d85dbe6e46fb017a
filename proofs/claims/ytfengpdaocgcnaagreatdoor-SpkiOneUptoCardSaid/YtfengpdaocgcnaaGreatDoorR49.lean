/- The law on keys: are they the same; the law's start. What a statement's arguments read as. How long an argument's bytes are, by its reading. What an element that came in reads as. What a key that came in reads as; the tables of Ed25519's numbers that the program's text lays. What is taken is the one text of its key. Plain Lean. -/
import Derived.Test.YtfengpdaocgcnaaGreatDoorQ33
import Derived.Test.YtfengpdaocgcnaaGreatDoorR47
import Derived.Test.YtfengpdaocgcnaaGreatDoorR48
import Derived.Test.YtfengpdaocgcnaaGreatDoorR34
import Derived.WalkKit
import Derived.ProofKit
import Derived.OpenShut
import Derived.Deep.Slices
import Derived.SizedLaws
import Derived.Stop.LaidErr
import Derived.Lib.LaidTab
import Derived.Test.YtfengpdaocgcnaaGreatDoorRows
import Derived.Test.YtfengpdaocgcnaaGreatDoorR35
import Derived.Deep.Strs
import Derived.Lib.LaidU8
namespace Go.Proofs.YtfengpdaocgcnaaGreatDoor
open Nat (reduceMul reduceLeDiff reduceEqDiff reduceLT reduceAdd reduceSub reduceDiv)
open Int (reduceToNat reducePow)
open Go.RowKit
set_option linter.unusedSimpArgs false
set_option maxRecDepth 100000
def LKaf:FuncId→List V→CR:=fun f args=>tab [(13,cY fun a=>cY fun b=>cF [a.length≤140737488355328] false (.bb (a==b)))] noF f args
def LKa (J:Inv):Sig:=⟨J,sdf,LKaf,noH,0⟩
theorem LKa_ok (J:Inv):SigOk Tryz.prog (LKa J):= .plain (tab_ok (.c (.y fun a=> .y fun b=> .z fun⟨c0,_⟩=>sameBytes_fn J a b c0)<| .n) noF_ok)
def skB (k l:Ky):Bool:=k.kty==l.kty&&k.crv==l.crv&&k.s==l.s&&k.n==l.n&&k.e==l.e&&k.x==l.x&&k.y==l.y
theorem skB_self (k:Ky):skB k k=true:=by simp[skB]
theorem same_fn (J:Inv) (k l:Ky) (hk:k.Ok):Fn Tryz.prog J 21 false [k.V,l.V] (.bb (skB k l)):=by
 rcases k with ⟨a,b,s,n,e,x,y⟩
 rcases l with ⟨a',b',s',n',e',x',y'⟩
 obtain⟨h1,h2,h3,h4,h5⟩:=hk
 simp only at h1 h2 h3 h4 h5
 refine fnI Tryz.func21 rfl (by kernel_rfl) rfl (LKa_ok J) ?_
 unfold Tryz.f21
 simp only[↓bD,bQ,reduceMul,reduceLeDiff,reduceEqDiff,reduceLT,reduceAdd,reduceSub,↓reduceIte,reduceCtorEq,reduceToNat,reducePow,Nat.reduceBEq,reduceDiv,LKa,LKaf,Ky.V,keyV]
 exact⟨fun _=>by omega,fun _=>by omega,fun _=>by omega,fun _=>by omega,fun _=>by omega,rfl⟩
theorem gx_bys:beN gx=bys 32 gx∧beN gy=bys 32 gy:=by
 have h:=gx_len
 rw[beN_len,beN_len] at h
 unfold beN
 rw[h.1,h.2]
 exact⟨rfl,rfl⟩
theorem k0_els:k0.els=[⟨48,[],2⟩,⟨48,[],2⟩,⟨6,[42,134,72,206,61,2,1],0⟩,⟨6,[42,134,72,206,61,3,1,7],0⟩,⟨3,0::4::(bys 32 gx++bys 32 gy),0⟩]:=by
 unfold Ky.els k0
 rw[if_neg (by decide),if_pos rfl,gx_bys.1,gx_bys.2]
 unfold elemF algE cvN
 rw[if_neg (by decide),nm_ec.2,nm_256.2]
 rfl
theorem k0_good:k0.good=true:=by
 unfold Ky.good k0 goodK
 rw[if_neg (by decide),if_neg (by decide),if_pos rfl]
 unfold crvOk gOk
 rw[if_pos rfl,beN_nb,beN_nb,gx_len.1,gx_len.2,g_on]
 rfl
theorem k0_ok:k0.Ok:=⟨by simp[k0],by simp[k0],by simp[k0],by show(beN gx).length≤_;rw[gx_len.1];omega,by show(beN gy).length≤_;rw[gx_len.2];omega⟩
theorem k0_print:(printF k0.els).1.length=91∧byteAt (printF k0.els).1 0=48∧byteAt (printF k0.els).1 26=4:=by
 rw[k0_els]
 exact⟨by kernel_rfl,by kernel_rfl,by kernel_rfl⟩
theorem pemL_len: ∀n,∀s:List UInt8,s.length≤n→(pemL s).length≤2*s.length
 |0,s,hn=>by
  obtain rfl:s=[]:=List.length_eq_zero_iff.1 (by omega)
  rw[pemL_nil]
  exact Nat.zero_le _
 |n+1,s,hn=>by
  by_cases hs:s=[]
  ·subst hs;rw[pemL_nil];exact Nat.zero_le _
  ·have hp:=List.length_pos_iff.2 hs
   have:=pemL_len n (s.drop 64) (by rw[List.length_drop];omega)
   rw[pemL_ne hs]
   simp only[List.length_append,List.length_cons,List.length_take,List.length_drop] at this⊢
   omega
theorem pem_len (k:Ky):k.pem.1.length≤16777216:=by
 have h1:=enc_len (pr_len k)
 unfold Ky.pem
 split
 ·have h2:=pemL_len _ (encF stdS k.pr.1) (Nat.le_refl _)
  have e1:beginN.length=27:=rfl
  have e2:endN.length=25:=rfl
  unfold pemF
  simp only[List.length_append,e1,e2]
  omega
 ·exact Nat.zero_le _
theorem z0_good:z0.good=false:=by rfl
def LKbf:FuncId→List V→CR:=fun f args=>tab [(42,cI .i64 fun c=>cF [c=1] false k0.V),
 (9,cK fun k=>cF [k.Ok] false (.tu [.by k.pr.1, .i k.pr.2])),
 (19,cY fun b=>cF [b.length≤140737488355328] false (.tu [(parK b).1.V, .i (parK b).2])),
 (10,cK fun k=>cF [k.Ok] false (.tu [.str k.pem.1, .i k.pem.2])),
 (20,cS fun t=>cF [t.length≤16777216] false (.tu [(unF t).1.V, .i (unF t).2])),
 (18,cK fun k=>cF [k.Ok] false (.i (chkC k.good))),
 (21,cKK fun k=>cF [k.1.Ok] false (.bb (skB k.1 k.2)))] LKaf f args
def LKb (J:Inv):Sig:=⟨J,sdf,LKbf,noH,0⟩
theorem LKb_ok (J:Inv) (hJ: ∀w F,J.I w F→JV.I w F) (hE:EdT J):SigOk Tryz.prog (LKb J):= .plain (tab_ok (.c (.i fun _=> .z fun⟨c0,_⟩=>(by rw[c0];exact base_fn J))<|
 .c (.k fun k=> .z fun⟨c0,_⟩=>sprint_fn J hJ hE k c0)<|
 .c (.y fun b=> .z fun⟨c0,_⟩=>sparse_fn J hJ hE b c0)<|
 .c (.k fun k=> .z fun⟨c0,_⟩=>spem_fn J hJ hE k c0)<|
 .c (.s fun t=> .z fun⟨c0,_⟩=>sunpem_fn J hJ hE t c0)<|
 .c (.k fun _=> .z fun⟨c0,_⟩=>check_fn J hE _ _ _ _ _ _ _ c0.s c0.n c0.e c0.x c0.y)<|
 .c (.kk fun k=> .z fun⟨c0,_⟩=>same_fn J k.1 k.2 c0)<| .n) (LKa_ok J).1)
theorem started_own (J:Inv) (hJ: ∀w F,J.I w F→JV.I w F) (hE:EdT J):FnH Tryz.prog J 17 [] [] 0 (.bb true) [] 3:=by
 have k0V:k0.V= .st [.i 3, .i 1, .by [], .by [], .by [], .by (beN gx), .by (beN gy)]:=rfl
 have k0E:(⟨3,1,[],[],[],beN gx,beN gy⟩:Ky)=k0:=rfl
 have z0E:(⟨0,0,[],[],[],[],[]⟩:Ky)=z0:=rfl
 obtain⟨h1,h2,h3,h4⟩:=back k0 k0_good (by decide)
 obtain⟨h5,h6⟩:=back_pem k0 k0_good (by decide)
 obtain⟨h7,h8,h9⟩:=k0_print
 rw[←h4] at h7 h8 h9
 have hl:=pem_len k0
 have hg:chkC k0.good=0:=by rw[k0_good];rfl
 have hz:chkC z0.good=90:=by rw[z0_good];rfl
 have hs:skB k0 k0=true:=skB_self _
 have ho:=k0_ok
 have zo:=z0_ok
 generalize hR:k0.pr=R at *
 generalize hM:k0.pem=M at *
 refine fnJ Tryz.func17 rfl (by kernel_rfl) (LKb_ok J hJ hE) rfl ?_
 unfold Tryz.f17
 have e91:((91:Nat):Int)=91:=rfl
 have e92:((91:Int)==91)=true:=rfl
 have e93:((48:Int)==48)=true:=rfl
 have e94:((4:Int)==4)=true:=rfl
 have e95:((0:Int)==0)=true:=rfl
 have e96:((90:Int)==90)=true:=rfl
 simp only[↓bD,bQ,reduceMul,reduceLeDiff,reduceEqDiff,reduceLT,reduceAdd,reduceSub,↓reduceIte,reduceCtorEq,reduceToNat,reducePow,Nat.reduceBEq,reduceDiv,LKb,LKbf,LKaf,cK,cKK,keyW,byN,k0V,k0E,z0E,h1,h2,h5,h6,h7,h8,h9,hg,hz,hs,hR,hM,e91,e92,e93,e94,e95,e96]
 repeat' with_reducible apply And.intro
 all_goals first|exact ho|exact hl|(intro _;first|exact ho|exact zo|omega)|(refine RenC.skip ?_;simp only[↓bD,bQ,reduceMul,reduceLeDiff,reduceEqDiff,reduceLT,reduceAdd,reduceSub,↓reduceIte,reduceCtorEq,reduceToNat,reducePow,Nat.reduceBEq,reduceDiv])
theorem started_fn (J:Inv) (hJ: ∀w F,J.I w F→JV.I w F) (hE:EdT J):Fn Tryz.prog J 17 false [] (.bb true):=Fn.of_plain (started_own J hJ hE) rfl
open Go.ChangeShapes Go.WideShapes Go.ChangeAt Go.RowKit
theorem cell_lt {w:World} {a:Addr} {v:Value} (h:w.cell? a=some v):a.block<w.heap.size:=by
 rcases Nat.lt_or_ge a.block w.heap.size with h1|h1
 ·exact h1
 ·have:w.heap[a.block]?=none:=Array.getElem?_eq_none h1
  unfold World.cell? at h
  rw[this] at h
  simp at h
theorem arg_bytes {H:Type} {enc:TypeId×Value→H} {P:Program} {w:World} {base b0:Nat} {sp:Nat→Bool} {hd:Bool} {t e:TypeId} {v:Value} {d:DataW H} {ps:List MemPlace} {ts:List TypeId} {ds:List (DataW H)} {j:Nat}
  (ht:P.underlying t=some (.slice e)) (he:P.underlying e=some (.int .u8)) (hc:P.cellsOf e=1) (hb:P.bytesOf e=1) (hval:Value.okWide P w .any b0 t v) (h:DataW.Trod enc P w base sp hd t v d ps)
  (hsz:(DataW.weightsEach P ts ds).all (· ≤reachBytes)=true) (hj:ts[j]?=some t) (hdj:ds[j]?=some d): ∃l:List UInt8,l.length≤140737488351232∧Rep w (.bare fun _=>False) (.by l) v:=by
 obtain⟨a0,len0,cap0,rfl⟩:=okWide_slice ht hval
 obtain⟨fuel,hf⟩:=h
 rcases open_ints ht he hc hf with ⟨hcs,_⟩|⟨x,l,c,zs,hcs,_,hl,hm,hz,hx,hcell,hwz⟩
 ·simp[Value.cells] at hcs
  obtain⟨rfl,rfl,rfl⟩:=hcs
  refine⟨[],by simp, .sl _ 1 0 _ none 0 0 0 (fun _ _=>undef) rfl (Nat.le_refl _) (fun h=>by omega) (fun i hi=>by omega) (fun i hi=>by omega)⟩
 ·simp[Value.cells] at hcs
  obtain⟨rfl,rfl,rfl⟩:=hcs
  have hlz:len0≤zs.length:=by rw[hz];split<;>omega
  obtain⟨hd1,_⟩:=Prod.mk.inj hx
  subst hd1
  have hs:=sized_slice hsz hj hdj ht
  rw[hb,Nat.mul_one] at hs
  have hlen:((zs.take len0).map u8).length=len0:=by simp;omega
  refine⟨(zs.take len0).map u8,?_,?_⟩
  ·rw[hlen]
   have e1:(lits (H:=H) .u8 (zs.take len0)).length=len0:=by unfold lits;simp;omega
   have:reachBytes=140737488351232:=rfl
   omega
  ·have hw: ∀i,i<len0→0≤zs.getD i 0∧zs.getD i 0<256:=fun i hi=>by
    have hmem:zs.getD i 0∈zs:=by rw[List.getD_eq_getElem?_getD,List.getElem?_eq_getElem (by omega)];exact List.getElem_mem _
    have h1:=hwz _ hmem
    simp only[Lit.wf,Bool.and_eq_true,decide_eq_true_eq] at h1
    have e1:IntKind.u8.min=0:=rfl
    have e2:IntKind.u8.max=255:=rfl
    omega
   have hb2: ∀i,i<len0→byteAt ((zs.take len0).map u8) i=zs.getD i 0:=fun i hi=>by
    obtain⟨h1,h2⟩:=hw i hi
    unfold byteAt
    rw[List.getD_eq_getElem?_getD,List.getElem?_map,List.getElem?_take,if_pos hi,List.getElem?_eq_getElem (by omega)]
    rw[List.getD_eq_getElem?_getD,List.getElem?_eq_getElem (by omega)] at h1 h2⊢
    exact u8_toNat _ h1 h2
   by_cases h0:len0=0
   ·subst h0
    exact .sl _ 1 0 (fun i=> .val (.int .u8 (byteAt ((zs.take 0).map u8) i))) (some x) cap0 0 0 (fun _ _=>undef) rfl hl (fun h=>by omega) (fun i hi=>by omega) (fun i hi=>by omega)
   ·obtain⟨b,off,spot⟩:=x
    have hc0:=hcell 0 (by omega)
    have hspot:spot=none:=by simpa [Addr.add] using World.cell?_spot hc0
    subst hspot
    have hcl: ∀i,i<len0→w.cell? ⟨b,off+i,none⟩=some (.int .u8 (zs.getD i 0)):=fun i hi=>by
     have:=hcell i (by omega)
     rwa [addr_add] at this
    refine .sl _ 1 len0 (fun i=> .val (.int .u8 (byteAt ((zs.take len0).map u8) i))) (some ⟨b,off,none⟩) cap0 b off (fun i _=> .int .u8 (zs.getD i 0)) ?_ hl (fun _=>⟨rfl,cell_lt (hcl 0 (by omega)),fun h=>h⟩) (fun i hi j hj=> ?_) (fun i hi j hj=> ?_)
    ·simp only[V.elems,hlen]
    ·obtain rfl:j=0:=by omega
     rw[Nat.mul_one,Nat.add_zero]
     exact⟨hcl i hi,rfl⟩
    ·obtain rfl:j=0:=by omega
     rw[hb2 i hi]
     exact .val _
theorem inv_of_tab {P:Program} {W:World} {g:Nat} {nm:String} {k:IntKind} {zs:List Int} (hg:P.globalNamed nm=some g) (h:Lib.TabIs P W nm k zs):(tabInv P [(nm,k,zs)]).I W fun _=>False:=by
 intro t ht
 obtain rfl:=List.mem_singleton.1 ht
 refine⟨h,g,hg,?_,fun h=>h⟩
 unfold Lib.TabIs World.var? at h
 rw[hg] at h
 simp only[Option.bind_some] at h
 rcases Nat.lt_or_ge g W.heap.size with h1|h1
 ·exact h1
 ·rw[Array.getElem?_eq_none h1] at h;simp at h
open Go.ChangeShapes Go.WideShapes Go.ChangeAt Go.RowKit
theorem arg_len {H:Type} {enc:TypeId×Value→H} {P:Program} {w:World} {base:Nat} {sp:Nat→Bool} {hd:Bool} {t e:TypeId} {a0:Option Addr} {len0 cap0:Nat} {d:DataW H} {ps:List MemPlace}
  (ht:P.underlying t=some (.slice e)) (h:DataW.Trod enc P w base sp hd t (.slice a0 len0 cap0) d ps):len0=0∨ ∃es sp,d= .slice es sp∧es.length=len0:=by
 obtain⟨fuel,hf⟩:=h
 rcases _root_.Go.Deep.open_slice ht hf with ⟨hcs,_⟩|⟨x,l,c,m,n,D,Pl,hcs,_,hl,hm,hmm,hx,_⟩
 ·simp[Value.cells] at hcs
  exact .inl hcs.2.1
 ·simp[Value.cells] at hcs
  obtain⟨rfl,rfl,rfl⟩:=hcs
  obtain⟨hd1,_⟩:=Prod.mk.inj hx
  exact .inr ⟨_,_,hd1,by simp⟩
theorem rep_len {w:World} {F:Cx} {l:List UInt8} {a0:Option Addr} {len0 cap0:Nat} (h:Rep w F (.by l) (.slice a0 len0 cap0)):l.length=len0:=by
 obtain⟨A,cap,b,off,u,he,_⟩:=rep_sl (x:= .by l) rfl h
 simp only[Value.slice.injEq] at he
 exact he.2.1.symm
theorem bulk_one {H:Type} (d:DataW H):1≤Rows.uptoBulk d:=by
 cases d with
 |lit l=>cases l<;>simp[Rows.uptoBulk]
 |_=>simp[Rows.uptoBulk]
theorem bulk_len {H:Type}: ∀l:List (DataW H),l.length≤Rows.uptoBulkAll l
 |[]=>by simp[Rows.uptoBulkAll]
 |d::r=>by
  have h1:=bulk_one d
  have h2:=bulk_len r
  simp only[Rows.uptoBulkAll,List.length_cons];omega
theorem bulk_slice {H:Type} (es sp:List (DataW H)):es.length≤Rows.uptoBulk (.slice es sp):=by
 have:=bulk_len es
 simp only[Rows.uptoBulk];omega
open Go.ChangeShapes Go.WideShapes Go.ChangeAt Go.RowKit
theorem iface_cell {P:Program} {W:World} {n:String} {nm:String} {d:DataW Unit} {g:Nat} {t:TypeId} {ms:Array (String×TypeId)} (h:Lib.VarReads P W n (.iface nm d)) (hg:P.globalNamed n=some g) (hty:(P.globals[g]?).map (·.type)=some t) (ht:P.underlying t=some (.interface ms)):
  ErrAt W g:=by
 obtain⟨g',t',cs,fuel,p,hg',hty',hvar,hd⟩:=h
 obtain rfl:=Option.some.inj (hg.symm.trans hg')
 obtain rfl:=Option.some.inj (hty.symm.trans hty')
 have hc: ∃u v,cs.toList=[.iface u v]:=by
  cases fuel with
  |zero=>simp[DataW.trod] at hd
  |succ k=>
   unfold DataW.trod at hd
   rw[ht] at hd
   split at hd<;>simp_all
 obtain⟨u,v,hc⟩:=hc
 refine⟨.iface u v,?_, .inr ⟨u,v,rfl⟩⟩
 rw[World.var?_cell hg' hvar 0,←Array.getElem?_toList,hc]
 rfl
open Go.ChangeShapes Go.WideShapes Go.ChangeAt Go.RowKit
theorem cell_keepE {w w':World} {b:Nat} (e:w'.heap[b]?=w.heap[b]?) (o:Nat):w'.cell? ⟨b,o,none⟩=w.cell? ⟨b,o,none⟩:=by
 simp only[World.cell?,e]
structure Tab8 (w:World) (F:Nat→Prop) (g:Nat) (L:List Nat):Prop where
 lt:g<w.heap.size
 fr: ¬F g
 at': ∀i,i<8→w.cell? ⟨g,i,none⟩=some (.int .u32 ((L.getD i 0:Nat):Int))
theorem Tab8.out {w w':World} {F F':Nat→Prop} {g:Nat} {L:List Nat} (h:Tab8 w F g L) (hs:w.heap.size≤w'.heap.size) (hb: ∀b,b<w.heap.size→ ¬F b→w'.heap[b]?=w.heap[b]?) (hF: ∀b,F' b→F b∨w.heap.size≤b):Tab8 w' F' g L:=
 ⟨Nat.lt_of_lt_of_le h.lt hs,fun hf=>(hF _ hf).elim h.fr fun h2=>by have:=h.lt;omega,fun i hi=>(cell_keepE (hb _ h.lt h.fr) _).trans (h.at' i hi)⟩
def JE:Inv where
 I:=fun w F=>Tab8 w F 0 primeL∧Tab8 w F 2 curveL∧Tab8 w F 3 rootL
 out:=fun{w w' F F'} h hs hb hF=>⟨h.1.out hs hb hF,h.2.1.out hs hb hF,h.2.2.out hs hb hF⟩
 gl:=⟨fun g=>if g=0 then some (.pe (.sq 8 .any [.st (wds primeL)]) 0 0) else if g=2 then some (.pe (.sq 8 .any [.st (wds curveL)]) 0 0) else if g=3 then some (.pe (.sq 8 .any [.st (wds rootL)]) 0 0) else none,none,fun _ _ _=>none⟩
 lkOk:=fun _ _ _ _ _ h=>by cases h
 glOk:=fun{w F} g v hg h O W=>by
  have key: ∀L:List Nat,L.length=8→Tab8 w F g L→Rep w ⟨F,O,W⟩ (.pe (.sq 8 .any [.st (wds L)]) 0 0) (.pointer (some ⟨g,0,none⟩)):=fun L h8 ht=>by
   refine .pe _ 8 1 (fun i=>[V.st (wds L)].getD i .any) 0 0 g 0 (fun _ j=> .int .u32 ((L.getD j 0:Nat):Int)) rfl (by omega) ht.lt ht.fr (fun i hi j hj=> ?_) (fun i hi j hj=> ?_)
   ·obtain rfl:i=0:=by omega
    rw[show 0+(0*8+j)=j by omega]
    exact⟨ht.at' j hj,rfl⟩
   ·obtain rfl:i=0:=by omega
    have e:(V.st (wds L)).cell j= .val (.int .u32 ((L.getD j 0:Nat):Int)):=by
     show(wds L).getD j .any=_
     rw[List.getD_eq_getElem?_getD,List.getElem?_eq_getElem (by rw[wds_len];omega),Option.getD_some,←wds_get,List.getD_eq_getElem?_getD,List.getElem?_eq_getElem (by rw[wds_len];omega),Option.getD_some]
    show Rep _ _ ((V.st (wds L)).cell j) _
    rw[e]
    exact .val _
  have hg:(if g=0 then some (V.pe (.sq 8 .any [.st (wds primeL)]) 0 0) else if g=2 then some (V.pe (.sq 8 .any [.st (wds curveL)]) 0 0) else if g=3 then some (V.pe (.sq 8 .any [.st (wds rootL)]) 0 0) else none)=some v:=hg
  split at hg
  ·rename_i hgg
   subst hgg
   obtain rfl:=Option.some.inj hg
   exact key primeL rfl h.1
  ·split at hg
   ·rename_i hgg
    subst hgg
    obtain rfl:=Option.some.inj hg
    exact key curveL rfl h.2.1
   ·split at hg
    ·rename_i hgg
     subst hgg
     obtain rfl:=Option.some.inj hg
     exact key rootL rfl h.2.2
    ·cases hg
noncomputable def JX:Inv where
 I:=fun w F=>JE.I w F∧JV.I w F
 out:=fun h hs hb hF=>⟨JE.out h.1 hs hb hF,JV.out h.2 hs hb hF⟩
 gl:=JE.gl
 lkOk:=fun P t m s z h1 h2 h3=>JE.lkOk P t m s z h1 h2 h3.1
 glOk:=fun g v h1 h2=>JE.glOk g v h1 h2.1
theorem edT_JX:EdT JX:=⟨rfl,rfl,rfl⟩
theorem jv_JX: ∀w F,JX.I w F→JV.I w F:=fun _ _ h=>h.2
theorem tab8_of {P:Program} {W:World} {name:String} {g:Nat} {L:List Nat} (h:Lib.TabIs P W name .u32 (L.map fun(n:Nat)=>(n:Int))) (hg:P.globalNamed name=some g) (h8:L.length=8):Tab8 W (fun _=>False) g L:=by
 have hc: ∀i,i<8→W.cell? ⟨g,i,none⟩=some (.int .u32 ((L.getD i 0:Nat):Int)):=fun i hi=>by
  rw[h.cell hg i (by rw[List.length_map];omega),List.getD_eq_getElem?_getD,List.getElem?_map,List.getD_eq_getElem?_getD,List.getElem?_eq_getElem (by omega)]
  rfl
 exact⟨cell_lt (hc 0 (by omega)),fun h=>h,hc⟩
theorem elt {ts:List Tlv} (hs:shapedF ts=true) {x:Nat} (hx:x<ts.length):(innerF (ts.getD x default).tag=true→(ts.getD x default).data=[])∧(innerF (ts.getD x default).tag=false→(ts.getD x default).kids=0∧rightF (ts.getD x default).tag (ts.getD x default).data=true):=by
 obtain⟨_,_,h3⟩:=shapedF_shp hs
 obtain⟨e,y,_,h4⟩:=h3 x hx
 have key: ∀rec,stB ts rec x=some y→(innerF (ts.getD x default).tag=true→(ts.getD x default).data=[])∧(innerF (ts.getD x default).tag=false→(ts.getD x default).kids=0∧rightF (ts.getD x default).tag (ts.getD x default).data=true):=fun rec h5=>by
  obtain⟨_,_,h6|h6⟩:=stB_cases h5
  ·unfold tagT datT at h6
   exact⟨fun h=>(by rw[h6.1] at h;cases h),fun _=>⟨h6.2.1,h6.2.2.1⟩⟩
  ·unfold tagT datT at h6
   exact⟨fun _=>h6.2.2.1,fun h=>(by rw[h6.1] at h;cases h)⟩
 cases e<;>exact key _ h4
theorem isF_inv {t:Tlv} {s:List UInt8} (h:isF t s=true):t=⟨6,oidB s,0⟩:=by
 unfold isF at h
 simp only[Bool.and_eq_true,beq_iff_eq] at h
 obtain⟨h1,h2,h3, -⟩:=of_oid (t:=t) (o:=s) (Prod.ext h.2 h.1)
 have e:oidB s=t.data:=by unfold oidB;rw[h1];rfl
 rw[e]
 rcases t with ⟨a,d,k⟩
 simp only at h2 h3⊢
 rw[h2,h3]
theorem rsa_inv {key:List UInt8} {k:Ky} (h:rsaF key=(k,none)):k.kty=2∧(printF (innL k.n k.e)).1=key:=by
 unfold rsaF at h
 split at h
 ·cases h
 ·rename_i h1
  simp only[not_or,Decidable.not_not] at h1
  obtain⟨q1,q2,q3,q4⟩:=h1
  split at h
  ·rename_i h2
   obtain rfl:=(Prod.mk.inj h).1
   refine⟨rfl,?_⟩
   obtain⟨_,hs,hp,_⟩:=print_parse q1
   generalize (parseF key).1=ws at *
   have e0:=(elt hs (x:=0) (by omega)).1 (by rw[q3];decide)
   obtain⟨u1,u2,u3, -⟩:=of_uint (t:=ws.getD 1 default) (n:=(uintF (ws.getD 1 default)).1) (Prod.ext rfl h2.1)
   obtain⟨v1,v2,v3, -⟩:=of_uint (t:=ws.getD 2 default) (n:=(uintF (ws.getD 2 default)).1) (Prod.ext rfl h2.2)
   match ws,q2 with
   |[a,b,c],_=>
    have a0:a=⟨48,[],2⟩:=by
     rcases a with ⟨x,y,z⟩
     have q3:x=48:=q3
     have q4:z=2:=q4
     have e0:y=[]:=e0
     rw[q3,q4,e0]
    have b0:b=⟨2,ofuD (uintF b).1,0⟩:=by
     have u1:ofuD (uintF b).1=b.data:=u1
     rw[u1]
     rcases b with ⟨x,y,z⟩
     have u2:x=2:=u2
     have u3:z=0:=u3
     rw[u2,u3]
    have c0:c=⟨2,ofuD (uintF c).1,0⟩:=by
     have v1:ofuD (uintF c).1=c.data:=v1
     rw[v1]
     rcases c with ⟨x,y,z⟩
     have v2:x=2:=v2
     have v3:z=0:=v3
     rw[v2,v3]
    have e:innL (uintF b).1 (uintF c).1=[a,b,c]:=by
     unfold innL
     rw[←a0,←b0,←c0]
    show(printF (innL (uintF b).1 (uintF c).1)).1=key
    rw[e,hp]
  ·cases h
theorem ec_inv {c:Int} (hc:c=1∨c=2) {key:List UInt8} {k:Ky} (h:ecF c key=(k,none)):k.kty=3∧k.crv=c∧4::(k.x++k.y)=key:=by
 unfold ecF at h
 split at h
 ·cases h
 ·rename_i h1
  simp only[not_or,Decidable.not_not] at h1
  obtain⟨q1,q2⟩:=h1
  obtain rfl:=(Prod.mk.inj h).1
  refine⟨rfl,rfl,?_⟩
  rcases key with _|⟨d,r⟩
  ·rcases hc with rfl|rfl<;>simp[sizeC] at q1
  ·have e4:d=4:=by
    rw[byteAt_cons] at q2
    exact UInt8.toNat_inj.1 (by have:(4:UInt8).toNat=4:=rfl;omega)
   subst e4
   show 4::((r.take (sizeC c).toNat)++r.drop (sizeC c).toNat)=_
   rw[List.take_append_drop]
theorem read_inv {ts:List Tlv} {code:Int} {k:Ky} (hs:code=0→shapedF ts=true) (h:readF' ts code=(k,none)):code=0∧k.kty≠1∧k.els=ts:=by
 unfold readF' at h
 split at h
 ·cases h
 split at h
 ·cases h
 rename_i h1
 split at h
 ·cases h
 rename_i h2
 unfold rdBad at h1
 unfold rdBit at h2
 simp only[Bool.or_eq_true,not_or,Bool.not_eq_true,Bool.not_eq_false',beq_iff_eq,decide_eq_false_iff_not] at h1 h2
 obtain⟨⟨⟨⟨⟨⟨q0,q1⟩,q2⟩,q3⟩,q4⟩,q5⟩,q6⟩:=h1
 obtain⟨p1,p2⟩:=h2
 have hs:=hs q0
 have a0:ts.getD 0 default=⟨48,[],2⟩:=by
  have e:=(elt hs (x:=0) (by omega)).1 (by rw[q3];decide)
  generalize ts.getD 0 default=t at *
  rcases t with ⟨x,y,z⟩
  simp only at q3 q4 e
  rw[q3,q4,e]
 have a1:ts.getD 1 default=⟨48,[],(ts.length:Int)-3⟩:=by
  have e:=(elt hs (x:=1) (by omega)).1 (by rw[q5];decide)
  generalize ts.getD 1 default=t at *
  rcases t with ⟨x,y,z⟩
  simp only at q5 q6 e
  rw[q5,q6,e]
 have al:ts.getD (ts.length-1) default=⟨3,0::(ts.getD (ts.length-1) default).data.drop 1,0⟩:=by
  obtain⟨e1,e2⟩:=(elt hs (x:=ts.length-1) (by omega)).2 (by rw[p1];decide)
  rw[p1] at e2
  generalize ts.getD (ts.length-1) default=t at *
  rcases t with ⟨x,y,z⟩
  simp only at p1 p2 e1 e2⊢
  rcases y with _|⟨c,r⟩
  ·exact absurd e2 (by decide)
  ·have e3:c=0:=by
    rw[byteAt_cons] at p2
    exact UInt8.toNat_inj.1 (by have:(0:UInt8).toNat=0:=rfl;omega)
   rw[p1,e1,e3]
   rfl
 refine⟨q0,?_⟩
 generalize hkey:(ts.getD (ts.length-1) default).data.drop 1=key at h al
 unfold rdKey at h
 split at h
 ·rename_i hc
  simp only[Bool.and_eq_true,beq_iff_eq] at hc
  have a2:=isF_inv hc.1.2
  obtain rfl:=(Prod.mk.inj h).1
  refine⟨(by decide:(4:Int)≠1),?_⟩
  match ts,hc.1.1 with
  |[t0,t1,t2,t3],_=>
   show elemF algO key=_
   have a0:t0=_:=a0
   have a1:t1=_:=a1
   have a2:t2=_:=a2
   have al:t3=_:=al
   rw[a0,a1,a2,al]
   rfl
 split at h
 ·rename_i hc
  simp only[Bool.and_eq_true,beq_iff_eq] at hc
  have a2:=isF_inv hc.1.2
  have a3:ts.getD 3 default=⟨5,[],0⟩:=by
   obtain⟨e1,e2⟩:=(elt hs (x:=3) (by omega)).2 (by rw[hc.2];decide)
   rw[hc.2] at e2
   have hc2:=hc.2
   generalize ts.getD 3 default=t at *
   rcases t with ⟨x,y,z⟩
   simp only at hc2 e1 e2⊢
   rcases y with _|⟨c,r⟩
   ·rw[hc2,e1]
   ·exact absurd (show((r.length+1:Nat):Int)=0 from eq_of_beq e2) (by omega)
  obtain⟨k1,k2⟩:=rsa_inv h
  refine⟨by rw[k1];decide,?_⟩
  unfold Ky.els
  rw[if_pos k1,k2]
  match ts,hc.1.1 with
  |[t0,t1,t2,t3,t4],_=>
   have a0:t0=_:=a0
   have a1:t1=_:=a1
   have a2:t2=_:=a2
   have a3:t3=_:=a3
   have al:t4=_:=al
   rw[a0,a1,a2,a3,al]
   rfl
 have ec: ∀c:Int,(c=1∨c=2)→ts.length=5→isF (ts.getD 2 default) ecN=true→isF (ts.getD 3 default) (cvN c)=true→ecF c key=(k,none)→k.kty≠1∧k.els=ts:=fun c hc hl h2 h3 h=>by
  have a2:=isF_inv h2
  have a3:=isF_inv h3
  obtain⟨k1,k2,k3⟩:=ec_inv hc h
  refine⟨by rw[k1];decide,?_⟩
  unfold Ky.els
  rw[if_neg (by rw[k1];decide),if_pos k1,k2,k3]
  match ts,hl with
  |[t0,t1,t2,t3,t4],_=>
   have a0:t0=_:=a0
   have a1:t1=_:=a1
   have a2:t2=_:=a2
   have a3:t3=_:=a3
   have al:t4=_:=al
   rw[a0,a1,a2,a3,al]
   rfl
 split at h
 ·rename_i hc
  simp only[Bool.and_eq_true,beq_iff_eq] at hc
  exact ec 1 (.inl rfl) (by omega) hc.1.2 hc.2 h
 split at h
 ·rename_i hc
  simp only[Bool.and_eq_true,beq_iff_eq] at hc
  exact ec 2 (.inr rfl) (by omega) hc.1.2 hc.2 h
 ·cases h
theorem forth {b:List UInt8} (h:(parK b).2=0):(parK b).1.good=true∧(parK b).1.kty≠1∧(parK b).1.pr=(b,0):=by
 unfold parK at h⊢
 rcases hR:sreadF b with ⟨k,_|p⟩
 ·rw[hR] at h
  simp only at h⊢
  by_cases hg:k.good=true
  ·rw[if_pos hg]
   have hs:(parseF b).2.1=0→shapedF (parseF b).1=true:=fun e=>(print_parse e).2.1
   obtain⟨c0,c1,c2⟩:=read_inv hs (show readF' (parseF b).1 (parseF b).2.1=(k,none) from hR)
   refine⟨hg,c1,?_⟩
   unfold Ky.pr
   rw[if_pos ⟨hg,c1⟩,c2]
   exact(print_parse c0).2.2.1
  ·rw[if_neg hg] at h;exact absurd h (by decide)
 ·rw[hR] at h
  simp only at h
  split at h
  ·exact absurd h (by decide)
  ·split at h<;>exact absurd h (by decide)
theorem parK_no {b:List UInt8} (h:(parK b).2≠0):(parK b).1=z0∧((parK b).2=80∨(parK b).2=90∨(parK b).2=10):=by
 unfold parK at h⊢
 rcases hR:sreadF b with ⟨k,_|p⟩
 ·rw[hR] at h
  simp only at h⊢
  split
  ·rename_i hg;rw[if_pos hg] at h;exact absurd rfl h
  ·exact⟨rfl, .inr (.inl rfl)⟩
 ·simp only
  refine⟨trivial,?_⟩
  split
  ·exact .inr (.inr rfl)
  ·split
   ·exact .inr (.inl rfl)
   ·exact .inl rfl
theorem b6_i6 {S:List UInt8} (hS:S.length=64) {c:UInt8} (h:c∈S):b6 S (i6 S c)=c∧i6 S c<64:=by
 have hl:=List.idxOf_lt_length_of_mem h
 refine⟨?_,by unfold i6;omega⟩
 unfold b6 i6
 rw[List.getD_eq_getElem?_getD,List.getElem?_eq_getElem hl,Option.getD_some,List.getElem_idxOf]
theorem spell_read {S:List UInt8} (hS:S.length=64): ∀s:List UInt8,(∀c∈s,c∈S)→s.length%4≠1→(readF S s).2=true→spellF S (readF S s).1=s
 |a::b::c::d::r,hm,hl,h=>by
  obtain⟨a1,a2⟩:=b6_i6 hS (hm a (by simp))
  obtain⟨b1,b2⟩:=b6_i6 hS (hm b (by simp))
  obtain⟨c1,c2⟩:=b6_i6 hS (hm c (by simp))
  obtain⟨d1,d2⟩:=b6_i6 hS (hm d (by simp))
  rw[readF] at h⊢
  have ih:=spell_read hS r (fun x hx=>hm x (by simp[hx])) (by simp only[List.length_cons] at hl;omega) h
  simp only[List.cons_append,List.nil_append]
  rw[spellF,ih,UInt8.toNat_ofNat',UInt8.toNat_ofNat',UInt8.toNat_ofNat']
  have g1:(i6 S a*262144+i6 S b*4096+i6 S c*64+i6 S d)/65536%2^8/4=i6 S a:=by omega
  have g2:(i6 S a*262144+i6 S b*4096+i6 S c*64+i6 S d)/65536%2^8%4*16+(i6 S a*262144+i6 S b*4096+i6 S c*64+i6 S d)/256%2^8/16=i6 S b:=by omega
  have g3:(i6 S a*262144+i6 S b*4096+i6 S c*64+i6 S d)/256%2^8%16*4+(i6 S a*262144+i6 S b*4096+i6 S c*64+i6 S d)%2^8/64=i6 S c:=by omega
  have g4:(i6 S a*262144+i6 S b*4096+i6 S c*64+i6 S d)%2^8%64=i6 S d:=by omega
  rw[g1,g2,g3,g4,a1,b1,c1,d1]
 |[a,b,c],hm,hl,h=>by
  obtain⟨a1,a2⟩:=b6_i6 hS (hm a (by simp))
  obtain⟨b1,b2⟩:=b6_i6 hS (hm b (by simp))
  obtain⟨c1,c2⟩:=b6_i6 hS (hm c (by simp))
  rw[readF] at h⊢
  simp only[beq_iff_eq] at h
  simp only
  rw[spellF,UInt8.toNat_ofNat',UInt8.toNat_ofNat']
  have g1:(i6 S a*262144+i6 S b*4096+i6 S c*64)/65536%2^8/4=i6 S a:=by omega
  have g2:(i6 S a*262144+i6 S b*4096+i6 S c*64)/65536%2^8%4*16+(i6 S a*262144+i6 S b*4096+i6 S c*64)/256%2^8/16=i6 S b:=by omega
  have g3:(i6 S a*262144+i6 S b*4096+i6 S c*64)/256%2^8%16*4=i6 S c:=by omega
  rw[g1,g2,g3,a1,b1,c1]
 |[a,b],hm,hl,h=>by
  obtain⟨a1,a2⟩:=b6_i6 hS (hm a (by simp))
  obtain⟨b1,b2⟩:=b6_i6 hS (hm b (by simp))
  rw[readF] at h⊢
  simp only[beq_iff_eq] at h
  simp only
  rw[spellF,UInt8.toNat_ofNat']
  have g1:(i6 S a*262144+i6 S b*4096)/65536%2^8/4=i6 S a:=by omega
  have g2:(i6 S a*262144+i6 S b*4096)/65536%2^8%4*16=i6 S b:=by omega
  rw[g1,g2,a1,b1]
 |[a],hm,hl,h=>by simp at hl
 |[],_,_,_=>rfl
theorem enc_dec {s:List UInt8} (h:(decF s).2.1=0):encF stdS (decF s).1=s:=by
 obtain⟨q1,q2,q3, -⟩:=eqN_spec s
 obtain⟨p1,p2, -⟩:=firstBad_spec (s.take (s.length-eqN s))
 unfold decF at h⊢
 split at h
 ·exact absurd h (by simp)
 rename_i h1
 split at h
 ·exact absurd h (by simp)
 rename_i h2
 split at h
 ·rename_i h3
  rw[if_neg h1,if_neg h2,if_pos h3]
  simp only
  have hl:(s.take (s.length-eqN s)).length=s.length-eqN s:=by rw[List.length_take];omega
  have hm: ∀c∈s.take (s.length-eqN s),c∈stdS:=fun c hc=>by
   obtain⟨i,hi,rfl⟩:=List.getElem_of_mem hc
   have:=p2 i (by omega)
   rwa [List.getD_eq_getElem?_getD,List.getElem?_eq_getElem hi] at this
  have hsr:=spell_read (S:=stdS) rfl _ hm (by omega) h3
  unfold encF
  rw[hsr,hl]
  have e:(4-(s.length-eqN s)%4)%4=eqN s:=by omega
  rw[e]
  have e2:List.replicate (eqN s) (61:UInt8)=s.drop (s.length-eqN s):=by
   refine(List.eq_replicate_iff.2 ⟨by rw[List.length_drop];omega,fun c hc=> ?_⟩).symm
   obtain⟨i,hi,rfl⟩:=List.getElem_of_mem hc
   rw[List.length_drop] at hi
   have h4:=q3 (eqN s-i-1) (by omega)
   rw[show s.length-(eqN s-i-1)-1=s.length-eqN s+i by omega] at h4
   rw[List.getElem_drop]
   unfold byteAt at h4
   rw[List.getD_eq_getElem?_getD,List.getElem?_eq_getElem (by omega),Option.getD_some] at h4
   exact UInt8.toNat_inj.1 (by have:(61:UInt8).toNat=61:=rfl;omega)
  rw[e2,List.take_append_drop]
 ·exact absurd h (by simp)
theorem cutN_inv {s:List UInt8} (h:(cutN s).2.2=true):s=(cutN s).1++10::(cutN s).2.1:=by
 unfold cutN at h⊢
 split
 ·rename_i hm
  have hl:=List.idxOf_lt_length_of_mem hm
  simp only
  have e:s.drop (s.idxOf 10)=10::s.drop (s.idxOf 10+1):=by
   rw[List.drop_eq_getElem_cons hl,List.getElem_idxOf]
  rw[←e,List.take_append_drop]
 ·rename_i hm;rw[if_neg hm] at h;cases h
theorem pemL_unP: ∀n,∀s a:List UInt8,s.length≤n→unP s=some a→pemL a=s
 |0,s,a,hn,h=>by
  obtain rfl:s=[]:=List.length_eq_zero_iff.1 (by omega)
  rw[unP_nil] at h
  obtain rfl:=Option.some.inj h
  exact pemL_nil
 |n+1,s,a,hn,h=>by
  by_cases hs:s=[]
  ·subst hs
   rw[unP_nil] at h
   obtain rfl:=Option.some.inj h
   exact pemL_nil
  ·have hlt:=cutN_lt hs
   rw[unP_ne hs] at h
   split at h
   ·cases h
   ·rename_i hb
    unfold badL at hb
    simp only[Bool.or_eq_true,not_or,Bool.not_eq_true,Bool.not_eq_false',beq_eq_false_iff_ne,decide_eq_false_iff_not,Bool.and_eq_false_iff,beq_iff_eq] at hb
    obtain⟨⟨⟨b1,b2⟩,b3⟩,b4⟩:=hb
    have hsi:=cutN_inv b1
    rcases hu:unP (cutN s).2.1 with _|a'
    ·rw[hu] at h;cases h
    rw[hu] at h
    obtain rfl:=Option.some.inj h
    have ih:=pemL_unP n _ _ (by omega) hu
    have hp:=List.length_pos_iff.2 b2
    rw[pemL_ne (by intro e;rw[List.append_eq_nil_iff] at e;exact b2 e.1)]
    rcases b4 with b4|b4
    ·have h64:(cutN s).1.length=64:=by omega
     rw[List.take_left' h64,List.drop_left' h64,ih,←hsi]
    ·rw[b4,unP_nil] at hu
     obtain rfl:=Option.some.inj hu
     show List.take 64 ((cutN s).1++[])++10::pemL (List.drop 64 ((cutN s).1++[]))=s
     rw[List.append_nil,List.take_of_length_le (by omega),List.drop_eq_nil_of_le (by omega),pemL_nil,←b4,←hsi]
theorem forth_pem {t:List UInt8} (h:(unF t).2=0):(unF t).1.pem=(t,0):=by
 unfold unF at h⊢
 split at h
 ·exact absurd h (by simp)
 rename_i h1
 simp only[Bool.or_eq_true,not_or,Bool.not_eq_true,Bool.not_eq_false',beq_eq_false_iff_ne] at h1
 obtain⟨⟨p1,p2⟩,p3⟩:=h1
 rcases hu:unP (Lib.trimSuffix (Lib.trimPrefix t beginN) endN) with _|a
 ·rw[hu] at h;simp at h
 rw[hu] at h
 simp only at h
 split at h
 ·rename_i hd
  have hd:=eq_of_beq hd
  obtain⟨g1,g2,g3⟩:=forth h
  rw[if_neg (by simp[p1,p2,p3])]
  simp only[hd,beq_self_eq_true,if_true]
  unfold Ky.pem
  rw[g3,if_pos rfl]
  refine Prod.ext ?_ rfl
  show pemF (decF a).1=t
  unfold pemF
  rw[enc_dec hd,pemL_unP _ _ _ (Nat.le_refl _) hu]
  have e1:beginN++Lib.trimPrefix t beginN=t:=by
   unfold Lib.hasPrefix at p1
   rw[List.isPrefixOf_iff_prefix] at p1
   obtain⟨r,rfl⟩:=p1
   rw[(trimP_app _ _).2]
  have e2:Lib.trimSuffix (Lib.trimPrefix t beginN) endN++endN=Lib.trimPrefix t beginN:=by
   unfold Lib.hasSuffix at p2
   rw[List.isSuffixOf_iff_suffix] at p2
   obtain⟨r,hr⟩:=p2
   rw[←hr,(trimS_app _ _).2]
  rw[e2,e1]
 ·exact absurd h (by simp)
theorem unF_no {t:List UInt8} (h:(unF t).2≠0):(unF t).1=z0:=by
 unfold unF at h⊢
 split
 ·rfl
 ·rename_i h1
  rw[if_neg h1] at h
  rcases hu:unP (Lib.trimSuffix (Lib.trimPrefix t beginN) endN) with _|a
  ·rfl
  ·rw[hu] at h
   simp only at h⊢
   split
   ·rename_i hd
    rw[if_pos hd] at h
    exact(parK_no h).1
   ·rfl
end Go.Proofs.YtfengpdaocgcnaaGreatDoor
