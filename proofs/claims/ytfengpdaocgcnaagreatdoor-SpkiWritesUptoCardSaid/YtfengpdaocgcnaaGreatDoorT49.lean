/- SpkiWrites, put together. What a statement's arguments read as. How long an argument's bytes are, by its reading. What an element that came in reads as. What a key that came in reads as; the tables of Ed25519's numbers that the program's text lays. -/
import Derived.Test.YtfengpdaocgcnaaGreatDoorT48
import Derived.Test.YtfengpdaocgcnaaGreatDoorT33
import Derived.WalkKit
import Derived.ProofKit
import Derived.OpenShut
import Derived.Deep.Slices
import Derived.SizedLaws
import Derived.Stop.LaidErr
import Derived.Lib.LaidTab
import Derived.Test.YtfengpdaocgcnaaGreatDoorRows
import Derived.Deep.Strs
import Derived.Lib.LaidU8
namespace Go.Proofs.YtfengpdaocgcnaaGreatDoor
open Nat (reduceMul reduceLeDiff reduceEqDiff reduceLT reduceAdd reduceSub reduceDiv)
open Int (reduceToNat reducePow)
open Go.RowKit
set_option linter.unusedSimpArgs false
set_option maxRecDepth 100000
noncomputable def wW:Code:=Tryz.f3.body.getD .skip
abbrev wS (kty crv:Int) (s n e x y:List UInt8) (N:Nat):S:=⟨[(1, .op 0 0),(3, .op 7 0)],[(0, .box 26 (keyV kty crv s n e x y)),(7, .box 26 (lenV kty crv 1 s.length n.length e.length x.length y.length)),(1, .row 5 (.by (s++mk 70))),(2, .row 5 (.by (n++mk 70))),(3, .row 5 (.by (e++mk 70))),(4, .row 5 (.by (x++mk 70))),(5, .row 5 (.by (y++mk 70)))],N⟩
theorem w1_right (J:Inv) (kty crv:Int) (s n e x y:List UInt8) (hk:kyOk s n e x y) (hr:PrO (Ky.mk kty crv s n e x y)):vg Tryz.prog (LW1 J true) (cutS 12 wW) ⟨enOf 0 [keyV kty crv s n e x y],[],0⟩ ⟨fun s'=> ∃N,8≤N∧Sub s' (wS kty crv s n e x y N),fun _=>False,[]⟩:=by
 have eT: ∀l:List UInt8,List.take l.length (l++mk 70)=l:=fun l=>by simp
 have hpl:=pr_len (Ky.mk kty crv s n e x y)
 have hp0:=hr.pr
 have ho:=hr.ok
 have b0:((0:Int)==0)=true:=rfl
 generalize hR:(Ky.mk kty crv s n e x y).pr=R at *
 generalize hM:(Ky.mk kty crv s n e x y).pem=M at *
 have bR:(R.1==R.1)=true:=beq_self_eq_true _
 have bM:(M.1==M.1)=true:=beq_self_eq_true _
 have bM2:(M.2==M.2)=true:=beq_self_eq_true _
 simp only[wW,cutS,Tryz.f3,Option.getD_some]
 simp only[↓bD,bQ,reduceLeDiff,reduceEqDiff,reduceLT,reduceAdd,↓reduceIte,reduceCtorEq,LW1,LWsf,cSb,LWqf,WPh,LSfh,LSeh,keyV,lenV,lenH,cK,keyW,byN,eT,hR,hM,hp0]
 refine⟨hk,hr,hr,ho,ho,ho,by omega,fun _=>hk,?_⟩
 generalize hK:Kseq _ _ _ _=K2
 refine LoopC.intro (α:=Nat×List UInt8) (fun u=>u.1≤R.1.length∧u.2.length=R.1.length) (fun u=>⟨[(14, .i u.1),(4, .ro (.r 8)),(6, .ro (.r 48)),(10, .by R.1),(1, .op 0 0),(3, .op 7 0)],(wS kty crv s n e x y 0).h++[(8, .row 5 (.by u.2)),(48, .row 5 (.by R.1))],88⟩) (fun u=>R.1.length-u.1) (0,R.1) ⟨Nat.zero_le _,rfl⟩ ?_ ?_
 ·simp only[bQ,reduceLeDiff,reduceEqDiff,reduceAdd,↓reduceIte,reduceCtorEq,keyV,lenV]
  rfl
 ·rintro⟨i,l⟩ ⟨g1,g2⟩
  simp only at g1 g2
  simp only[bQ,reduceEqDiff,reduceLT,reduceAdd,↓reduceIte,reduceCtorEq,keyV,lenV,g2]
  refine⟨fun h=> ?_,fun h=> ?_⟩
  ·have hi:i<R.1.length:=by have:=of_decide_eq_true h;omega
   refine⟨by omega,by omega,by omega,by omega,by omega,by omega,by omega,by omega,by constructor<;>omega,Again.intro (i+1,l.set i (u8 ((byteAt l i+1)%256))) ⟨by show i+1≤_;omega,by simp only[List.length_set];exact g2⟩ (by simp only;omega) ?_⟩
   simp only[bQ,reduceLeDiff,reduceEqDiff,↓reduceIte,reduceCtorEq]
   exact rfl
  ·rw[←hK]
   simp only[bQ,reduceEqDiff,↓reduceIte]
   generalize hK3:Kseq _ _ _ _=K3
   refine LoopC.intro (α:=Nat×List UInt8) (fun u=>u.1≤70∧u.2.length=R.1.length+u.1) (fun u=>⟨[(16, .i u.1),(15, .ro (.r 8)),(6, .ro (.r 48)),(10, .by R.1),(1, .op 0 0),(3, .op 7 0)],(wS kty crv s n e x y 0).h++[(8, .row 5 (.by u.2)),(48, .row 5 (.by R.1))],88⟩) (fun u=>70-u.1) (0,l) ⟨Nat.zero_le _,g2⟩ ?_ ?_
   ·simp only[bQ,reduceLeDiff,reduceEqDiff,reduceAdd,↓reduceIte,reduceCtorEq,keyV,lenV]
    rfl
   ·rintro⟨q,m⟩ ⟨f1,f2⟩
    simp only at f1 f2
    simp only[bQ,reduceMul,reduceLeDiff,reduceEqDiff,reduceAdd,↓reduceIte,reduceCtorEq,keyV,lenV,f2]
    refine⟨fun h=> ?_,fun h=> ?_⟩
    ·have hq:q<70:=by have:=of_decide_eq_true h;omega
     refine⟨by omega,by omega,by rw[List.length_append,f2];simp only[List.length_cons,List.length_nil];omega,by constructor<;>omega,Again.introR (q+1,m++[u8 9]) [(0,0),(7,7),(1,1),(2,2),(3,3),(4,4),(5,5),(8,89),(48,48)] ⟨by show q+1≤70;omega,by simp only[List.length_append,f2,List.length_cons,List.length_nil];omega⟩ (by simp only;omega) ?_⟩
     simp only[bQ,reduceLeDiff,reduceEqDiff,reduceLT,↓reduceIte,reduceCtorEq]
     rfl
    ·have hq:q=70:=by have:=of_decide_eq_false h;omega
     subst hq
     rw[←hK3]
     simp only[↓bD,bQ,reduceEqDiff,reduceLT,reduceAdd,↓reduceIte,reduceCtorEq,LWsf,cSb,LWqf,WPh,LSfh,lenH,eT,f2]
     have e70:(!((R.1.length+70:Nat):Int)==(R.1.length:Int)+70)=false:=by
      rw[show((R.1.length+70:Nat):Int)=(R.1.length:Int)+70 from rfl,beq_self_eq_true];rfl
     exact⟨by omega,fun _=>by constructor<;>omega,fun _=>hk,fun h=>(by rw[e70] at h;cases h),fun _=>⟨88,by omega,Nat.le_refl _⟩⟩
theorem w1_wrong (J:Inv) (kty crv:Int) (s n e x y:List UInt8) (hk:kyOk s n e x y) (ho:(Ky.mk kty crv s n e x y).Ok) (hr:(Ky.mk kty crv s n e x y).good=false∨kty=1):vg Tryz.prog (LW1 J false) (cutS 12 wW) ⟨enOf 0 [keyV kty crv s n e x y],[],0⟩ ⟨fun s'=> ∃N,8≤N∧Sub s' (wS kty crv s n e x y N),fun _=>False,[]⟩:=by
 have eT: ∀l:List UInt8,List.take l.length (l++mk 70)=l:=fun l=>by simp
 have hR:(Ky.mk kty crv s n e x y).pr=([],90):=by
  unfold Ky.pr
  rw[if_neg]
  rintro⟨q1,q2⟩
  rcases hr with h|h
  ·rw[h] at q1;cases q1
  ·exact q2 h
 have b0:((90:Int)==90)=true:=rfl
 have bN:(([]:List UInt8)==[])=true:=rfl
 have c0:((0:Nat):Int)=0:=rfl
 generalize hM:(Ky.mk kty crv s n e x y).pem=M at *
 have bM:(M.1==M.1)=true:=beq_self_eq_true _
 have bM2:(M.2==M.2)=true:=beq_self_eq_true _
 simp only[wW,cutS,Tryz.f3,Option.getD_some]
 simp only[↓bD,bQ,reduceLeDiff,reduceEqDiff,reduceLT,reduceAdd,↓reduceIte,reduceCtorEq,LW1,LWsf,cSb,LWqf,WPh,LSfh,LSeh,keyV,lenV,lenH,cK,keyW,byN,eT,hR,hM]
 refine⟨hk,ho,hr,ho,hr,ho,ho,ho,fun _=>hk,?_⟩
 generalize hK:Kseq _ _ _ _=K2
 refine LoopC.intro (α:=Unit) (fun _=>True) (fun _=>⟨[(14, .i 0),(4, .val (.slice none 0 0)),(6, .val (.slice none 0 0)),(10, .by []),(1, .op 0 0),(3, .op 7 0)],(wS kty crv s n e x y 0).h,88⟩) (fun _=>0) () trivial ?_ ?_
 ·simp only[bQ,reduceLeDiff,reduceEqDiff,reduceAdd,↓reduceIte,reduceCtorEq,keyV,lenV]
 ·intro _ _
  simp only[bQ,reduceEqDiff,reduceLT,reduceAdd,↓reduceIte,reduceToNat,keyV,lenV,c0]
  refine⟨fun h=>absurd h (by decide),fun _=> ?_⟩
  rw[←hK]
  simp only[bQ,reduceEqDiff,↓reduceIte]
  generalize hK3:Kseq _ _ _ _=K3
  refine LoopC.introA (α:=Nat×List UInt8) (fun u=>u.1≤70∧u.2.length=u.1) (fun u=>⟨[(16, .i u.1),(15, .ro (.r 88)),(6, .val (.slice none 0 0)),(10, .by []),(1, .op 0 0),(3, .op 7 0)],(wS kty crv s n e x y 0).h++[(88, .row 5 (.by u.2))],89⟩) (fun u=>70-u.1) (0,[]) [.sl 15 5 (.by [])] ⟨Nat.zero_le _,rfl⟩ ?_ ?_
  ·simp only[bQ,reduceLeDiff,reduceEqDiff,reduceAdd,↓reduceIte,reduceCtorEq,keyV,lenV]
   rfl
  ·rintro⟨q,m⟩ ⟨f1,f2⟩
   simp only at f1 f2
   simp only[bQ,reduceMul,reduceLeDiff,reduceEqDiff,reduceAdd,↓reduceIte,reduceCtorEq,keyV,lenV,f2]
   refine⟨fun h=> ?_,fun h=> ?_⟩
   ·have hq:q<70:=by have:=of_decide_eq_true h;omega
    refine⟨by omega,by omega,by rw[List.length_append,f2];simp only[List.length_cons,List.length_nil];omega,by constructor<;>omega,Again.introR (q+1,m++[u8 9]) [(0,0),(7,7),(1,1),(2,2),(3,3),(4,4),(5,5),(88,90)] ⟨by show q+1≤70;omega,by simp only[List.length_append,f2,List.length_cons,List.length_nil]⟩ (by simp only;omega) ?_⟩
    simp only[bQ,reduceLeDiff,reduceEqDiff,reduceLT,↓reduceIte,reduceCtorEq]
    rfl
   ·have hq:q=70:=by have:=of_decide_eq_false h;omega
    subst hq
    rw[←hK3]
    have e70:(!((70:Nat):Int)==(0:Int)+70)=false:=rfl
    simp only[↓bD,bQ,reduceEqDiff,reduceLT,reduceAdd,↓reduceIte,reduceCtorEq,LWsf,cSb,LWqf,WPh,LSfh,lenH,eT,f2,c0,e70]
    exact⟨fun _=>by constructor<;>omega,fun _=>hk,89,by omega,Nat.le_refl _⟩
theorem w2_right (J:Inv) (kty crv:Int) (s n e x y:List UInt8) (hk:kyOk s n e x y) (hr:PrO (Ky.mk kty crv (ovB s) (ovB n) (ovB e) (ovB x) (ovB y))):vg Tryz.prog (LW1 J true) (resS 12 wW) (wS kty crv s n e x y 8) ⟨fun _=>False,RetH Tryz.f3.results.toList (.bb true) [] 99,[]⟩:=by
 have eT: ∀l:List UInt8,List.take l.length (l++mk 70)=l:=fun l=>by simp
 have eO: ∀l:List UInt8,List.take l.length (ovB l++mk 70)=ovB l:=fun l=>by rw[←ovB_len l];simp
 have hk2:kyOk (ovB s) (ovB n) (ovB e) (ovB x) (ovB y):=by
  unfold kyOk
  rw[ovB_len,ovB_len,ovB_len,ovB_len,ovB_len]
  exact hk
 have ho:(Ky.mk kty crv (ovB s) (ovB n) (ovB e) (ovB x) (ovB y)).Ok:=by
  obtain⟨q1,q2,q3,q4,q5⟩:=hk2
  exact⟨q1,q2,q3,q4,q5⟩
 have hpl:=pr_len (Ky.mk kty crv (ovB s) (ovB n) (ovB e) (ovB x) (ovB y))
 have hp0:=hr.pr
 generalize hR:(Ky.mk kty crv (ovB s) (ovB n) (ovB e) (ovB x) (ovB y)).pr=R at *
 generalize hM:(Ky.mk kty crv (ovB s) (ovB n) (ovB e) (ovB x) (ovB y)).pem=M at *
 have b0:((0:Int)==0)=true:=rfl
 have bR:(R.1==R.1)=true:=beq_self_eq_true _
 have bM:(M.1==M.1)=true:=beq_self_eq_true _
 have bM2:(M.2==M.2)=true:=beq_self_eq_true _
 simp only[wW,resS,Tryz.f3,Option.getD_some]
 simp only[↓bD,bQ,reduceLeDiff,reduceEqDiff,reduceLT,reduceAdd,↓reduceIte,reduceCtorEq,LW1,LWsf,cSb,LWqf,WPh,LSfh,wS,keyV,lenV,lenH,cK,keyW,byN,eT,eO,hR,hM,hp0]
 exact⟨hk,hk2,ho,hk2,ho,hr,ho,by omega⟩
theorem w2_wrong (J:Inv) (kty crv:Int) (s n e x y:List UInt8) (hk:kyOk s n e x y) (hr:(Ky.mk kty crv (ovB s) (ovB n) (ovB e) (ovB x) (ovB y)).good=false∨kty=1):vg Tryz.prog (LW1 J false) (resS 12 wW) (wS kty crv s n e x y 8) ⟨fun _=>False,RetH Tryz.f3.results.toList (.bb true) [] 99,[]⟩:=by
 have eT: ∀l:List UInt8,List.take l.length (l++mk 70)=l:=fun l=>by simp
 have eO: ∀l:List UInt8,List.take l.length (ovB l++mk 70)=ovB l:=fun l=>by rw[←ovB_len l];simp
 have hk2:kyOk (ovB s) (ovB n) (ovB e) (ovB x) (ovB y):=by
  unfold kyOk
  rw[ovB_len,ovB_len,ovB_len,ovB_len,ovB_len]
  exact hk
 have ho:(Ky.mk kty crv (ovB s) (ovB n) (ovB e) (ovB x) (ovB y)).Ok:=by
  obtain⟨q1,q2,q3,q4,q5⟩:=hk2
  exact⟨q1,q2,q3,q4,q5⟩
 have hR:(Ky.mk kty crv (ovB s) (ovB n) (ovB e) (ovB x) (ovB y)).pr=([],90):=by
  unfold Ky.pr
  rw[if_neg]
  rintro⟨q1,q2⟩
  rcases hr with h|h
  ·rw[h] at q1;cases q1
  ·exact q2 h
 have b0:((90:Int)==90)=true:=rfl
 have bN:(([]:List UInt8)==[])=true:=rfl
 generalize hM:(Ky.mk kty crv (ovB s) (ovB n) (ovB e) (ovB x) (ovB y)).pem=M at *
 have bM:(M.1==M.1)=true:=beq_self_eq_true _
 have bM2:(M.2==M.2)=true:=beq_self_eq_true _
 simp only[wW,resS,Tryz.f3,Option.getD_some]
 simp only[↓bD,bQ,reduceLeDiff,reduceEqDiff,reduceLT,reduceAdd,↓reduceIte,reduceCtorEq,LW1,LWsf,cSb,LWqf,WPh,LSfh,wS,keyV,lenV,lenH,cK,keyW,byN,eT,eO,hR,hM]
 exact⟨hk,hk2,ho,hk2,ho,ho,hr,ho⟩
theorem right_or (k:Ky) (hk:k.Ok):PrO k∨(k.good=false∨k.kty=1):=by
 cases hg:k.good
 ·exact .inr (.inl rfl)
 ·by_cases h:k.kty=1
  ·exact .inr (.inr h)
  ·exact .inl ⟨hk,hg,h⟩
theorem SpkiWrites_fn (J:Inv) (hJ: ∀w F,J.I w F→JV.I w F) (hE:EdT J) (k:Ky) (hk:k.Ok):Fn Tryz.prog J 3 false [k.V] (.bb true):=by
 have hm:Tryz.prog.follows .mixedOrders=true:=by kernel_rfl
 refine Fn.of_plain (nx:=99) (post:=[]) ?_ rfl
 refine fnH_wp Tryz.func3 (c:=wW) (by kernel_rfl) (by kernel_rfl) (Nat.le_of_ble_eq_true (by kernel_rfl)) fun w F a Q hM hs hK=> ?_
 have hk1:=hk
 have hor:=right_or k hk
 rcases k with ⟨kty,crv,s,n,e,x,y⟩
 obtain⟨k1,k2,k3,k4,k5⟩:=hk1
 have hko:kyOk s n e x y:=⟨k1,k2,k3,k4,k5⟩
 have hor2:=right_or (Ky.mk kty crv (ovB s) (ovB n) (ovB e) (ovB x) (ovB y)) ⟨by show(ovB s).length≤_;rw[ovB_len];exact k1,by show(ovB n).length≤_;rw[ovB_len];exact k2,by show(ovB e).length≤_;rw[ovB_len];exact k3,by show(ovB x).length≤_;rw[ovB_len];exact k4,by show(ovB y).length≤_;rw[ovB_len];exact k5⟩
 have hb: ∀m:Nm,0≤m.root→F.O m=none∧F.W m=none:=fun m hm=>hM.nx m hm
 have key: ∀o,vg Tryz.prog (LW1 J o) (cutS 12 wW) ⟨enOf 0 [keyV kty crv s n e x y],[],0⟩ ⟨fun s'=> ∃N,8≤N∧Sub s' (wS kty crv s n e x y N),fun _=>False,[]⟩→wW.wp Tryz.prog Q a w:=fun o hv=>by
  refine wp_cut (x:=fx0 J w F [] Tryz.f3.ntmps) (LW1_ok J hJ hE o) rfl hb hm (fun _ _ _ _ h=>h.elim) 12 wW _ F a w (by kernel_rfl) (by kernel_rfl) hv hs fun s' F' a' w' ⟨N,hN,hsub⟩ hs'=> ?_
  obtain⟨G,hs3⟩:=(hs'.sub hsub).ren (b:=0) hb (σ:=[(0,0),(7,7),(1,1),(2,2),(3,3),(4,4),(5,5)]) (t:=wS kty crv s n e x y 8) (by
   simp only[bQ,reduceLeDiff,reduceEqDiff,reduceLT,reduceAdd,↓reduceIte,reduceCtorEq,wS,keyV,lenV])
  have fin: ∀o,vg Tryz.prog (LW1 J o) (resS 12 wW) (wS kty crv s n e x y 8) ⟨fun _=>False,RetH Tryz.f3.results.toList (.bb true) [] 99,[]⟩→(resS 12 wW).wp Tryz.prog Q a' w':=fun o hv2=>
   vg_ok (x:=fx0 J w F [] Tryz.f3.ntmps) (LW1_ok J hJ hE o) rfl hb hm _ _ _ Q G a' w' (by kernel_rfl) hv2 ⟨fun _ _ _ _ h=>h.elim,hK.ret,fun _ _ h=>by simp[exGet] at h⟩ hs3
  rcases hor2 with h|h
  ·exact fin true (w2_right J kty crv s n e x y hko h)
  ·exact fin false (w2_wrong J kty crv s n e x y hko h)
 rcases hor with h|h
 ·exact key true (w1_right J kty crv s n e x y hko h)
 ·exact key false (w1_wrong J kty crv s n e x y hko hk h)
open Go.ChangeShapes Go.WideShapes Go.ChangeAt Go.RowKit
theorem cell_lt {w:World} {a:Addr} {v:Value} (h:w.cell? a=some v):a.block<w.heap.size:=by
 rcases Nat.lt_or_ge a.block w.heap.size with h1|h1
 ·exact h1
 ·have:w.heap[a.block]?=none:=Array.getElem?_eq_none h1
  unfold World.cell? at h
  rw[this] at h
  simp at h
theorem inv_of_tab {P:Program} {W:World} {g:Nat} {nm:String} {k:IntKind} {zs:List Int} (hg:P.globalNamed nm=some g) (h:Lib.TabIs P W nm k zs):(tabInv P [(nm,k,zs)]).I W fun _=>False:=by
 intro t ht
 obtain rfl:=List.mem_singleton.1 ht
 refine⟨h,g,hg,?_,fun h=>h⟩
 unfold Lib.TabIs World.var? at h
 rw[hg] at h
 simp only[Option.bind_some] at h
 rcases Nat.lt_or_ge g W.heap.size with h1|h1
 ·exact h1
 ·rw[Array.getElem?_eq_none h1] at h;simp at h
open Go.ChangeShapes Go.WideShapes Go.ChangeAt Go.RowKit
open Go.ChangeShapes Go.WideShapes Go.ChangeAt Go.RowKit
theorem iface_cell {P:Program} {W:World} {n:String} {nm:String} {d:DataW Unit} {g:Nat} {t:TypeId} {ms:Array (String×TypeId)} (h:Lib.VarReads P W n (.iface nm d)) (hg:P.globalNamed n=some g) (hty:(P.globals[g]?).map (·.type)=some t) (ht:P.underlying t=some (.interface ms)):
  ErrAt W g:=by
 obtain⟨g',t',cs,fuel,p,hg',hty',hvar,hd⟩:=h
 obtain rfl:=Option.some.inj (hg.symm.trans hg')
 obtain rfl:=Option.some.inj (hty.symm.trans hty')
 have hc: ∃u v,cs.toList=[.iface u v]:=by
  cases fuel with
  |zero=>simp[DataW.trod] at hd
  |succ k=>
   unfold DataW.trod at hd
   rw[ht] at hd
   split at hd<;>simp_all
 obtain⟨u,v,hc⟩:=hc
 refine⟨.iface u v,?_, .inr ⟨u,v,rfl⟩⟩
 rw[World.var?_cell hg' hvar 0,←Array.getElem?_toList,hc]
 rfl
open Go.ChangeShapes Go.WideShapes Go.ChangeAt Go.RowKit
def keyOk (s n e x y:List UInt8):Prop:=s.length≤16777216∧n.length≤16777216∧e.length≤16777216∧x.length≤16777216∧y.length≤16777216
theorem cell_keepE {w w':World} {b:Nat} (e:w'.heap[b]?=w.heap[b]?) (o:Nat):w'.cell? ⟨b,o,none⟩=w.cell? ⟨b,o,none⟩:=by
 simp only[World.cell?,e]
structure Tab8 (w:World) (F:Nat→Prop) (g:Nat) (L:List Nat):Prop where
 lt:g<w.heap.size
 fr: ¬F g
 at': ∀i,i<8→w.cell? ⟨g,i,none⟩=some (.int .u32 ((L.getD i 0:Nat):Int))
theorem Tab8.out {w w':World} {F F':Nat→Prop} {g:Nat} {L:List Nat} (h:Tab8 w F g L) (hs:w.heap.size≤w'.heap.size) (hb: ∀b,b<w.heap.size→ ¬F b→w'.heap[b]?=w.heap[b]?) (hF: ∀b,F' b→F b∨w.heap.size≤b):Tab8 w' F' g L:=
 ⟨Nat.lt_of_lt_of_le h.lt hs,fun hf=>(hF _ hf).elim h.fr fun h2=>by have:=h.lt;omega,fun i hi=>(cell_keepE (hb _ h.lt h.fr) _).trans (h.at' i hi)⟩
def JE:Inv where
 I:=fun w F=>Tab8 w F 0 primeL∧Tab8 w F 2 curveL∧Tab8 w F 3 rootL
 out:=fun{w w' F F'} h hs hb hF=>⟨h.1.out hs hb hF,h.2.1.out hs hb hF,h.2.2.out hs hb hF⟩
 gl:=⟨fun g=>if g=0 then some (.pe (.sq 8 .any [.st (wds primeL)]) 0 0) else if g=2 then some (.pe (.sq 8 .any [.st (wds curveL)]) 0 0) else if g=3 then some (.pe (.sq 8 .any [.st (wds rootL)]) 0 0) else none,none,fun _ _ _=>none⟩
 lkOk:=fun _ _ _ _ _ h=>by cases h
 glOk:=fun{w F} g v hg h O W=>by
  have key: ∀L:List Nat,L.length=8→Tab8 w F g L→Rep w ⟨F,O,W⟩ (.pe (.sq 8 .any [.st (wds L)]) 0 0) (.pointer (some ⟨g,0,none⟩)):=fun L h8 ht=>by
   refine .pe _ 8 1 (fun i=>[V.st (wds L)].getD i .any) 0 0 g 0 (fun _ j=> .int .u32 ((L.getD j 0:Nat):Int)) rfl (by omega) ht.lt ht.fr (fun i hi j hj=> ?_) (fun i hi j hj=> ?_)
   ·obtain rfl:i=0:=by omega
    rw[show 0+(0*8+j)=j by omega]
    exact⟨ht.at' j hj,rfl⟩
   ·obtain rfl:i=0:=by omega
    have e:(V.st (wds L)).cell j= .val (.int .u32 ((L.getD j 0:Nat):Int)):=by
     show(wds L).getD j .any=_
     rw[List.getD_eq_getElem?_getD,List.getElem?_eq_getElem (by rw[wds_len];omega),Option.getD_some,←wds_get,List.getD_eq_getElem?_getD,List.getElem?_eq_getElem (by rw[wds_len];omega),Option.getD_some]
    show Rep _ _ ((V.st (wds L)).cell j) _
    rw[e]
    exact .val _
  have hg:(if g=0 then some (V.pe (.sq 8 .any [.st (wds primeL)]) 0 0) else if g=2 then some (V.pe (.sq 8 .any [.st (wds curveL)]) 0 0) else if g=3 then some (V.pe (.sq 8 .any [.st (wds rootL)]) 0 0) else none)=some v:=hg
  split at hg
  ·rename_i hgg
   subst hgg
   obtain rfl:=Option.some.inj hg
   exact key primeL rfl h.1
  ·split at hg
   ·rename_i hgg
    subst hgg
    obtain rfl:=Option.some.inj hg
    exact key curveL rfl h.2.1
   ·split at hg
    ·rename_i hgg
     subst hgg
     obtain rfl:=Option.some.inj hg
     exact key rootL rfl h.2.2
    ·cases hg
noncomputable def JX:Inv where
 I:=fun w F=>JE.I w F∧JV.I w F
 out:=fun h hs hb hF=>⟨JE.out h.1 hs hb hF,JV.out h.2 hs hb hF⟩
 gl:=JE.gl
 lkOk:=fun P t m s z h1 h2 h3=>JE.lkOk P t m s z h1 h2 h3.1
 glOk:=fun g v h1 h2=>JE.glOk g v h1 h2.1
theorem edT_JX:EdT JX:=⟨rfl,rfl,rfl⟩
theorem jv_JX: ∀w F,JX.I w F→JV.I w F:=fun _ _ h=>h.2
theorem tab8_of {P:Program} {W:World} {name:String} {g:Nat} {L:List Nat} (h:Lib.TabIs P W name .u32 (L.map fun(n:Nat)=>(n:Int))) (hg:P.globalNamed name=some g) (h8:L.length=8):Tab8 W (fun _=>False) g L:=by
 have hc: ∀i,i<8→W.cell? ⟨g,i,none⟩=some (.int .u32 ((L.getD i 0:Nat):Int)):=fun i hi=>by
  rw[h.cell hg i (by rw[List.length_map];omega),List.getD_eq_getElem?_getD,List.getElem?_map,List.getD_eq_getElem?_getD,List.getElem?_eq_getElem (by omega)]
  rfl
 exact⟨cell_lt (hc 0 (by omega)),fun h=>h,hc⟩
theorem bulk_memK {H:Type}: ∀{l:List (DataW H)} {d:DataW H},d∈l→Rows.uptoBulk d≤Rows.uptoBulkAll l
 |x::r,d,h=>by
  simp only[Rows.uptoBulkAll]
  rcases List.mem_cons.1 h with rfl|h
  ·omega
  ·have:=bulk_memK h;omega
theorem bulk_oneK {H:Type} (d:DataW H):1≤Rows.uptoBulk d:=by
 cases d with
 |lit l=>cases l<;>simp[Rows.uptoBulk]
 |_=>simp[Rows.uptoBulk]
theorem bulk_lenK {H:Type}: ∀l:List (DataW H),l.length≤Rows.uptoBulkAll l
 |[]=>by simp[Rows.uptoBulkAll]
 |d::r=>by
  have h1:=bulk_oneK d
  have h2:=bulk_lenK r
  simp only[Rows.uptoBulkAll,List.length_cons];omega
theorem bytes_trodK {H:Type} {enc:TypeId×Value→H} {P:Program} {w:World} {base:Nat} {sp:Nat→Bool} {hd:Bool} {t e:TypeId} {v:Value} {y:DataW H×List MemPlace} {fuel:Nat}
  (ht:P.underlying t=some (.slice e)) (he:P.underlying e=some (.int .u8)) (hc:P.cellsOf e=1) (hf:DataW.trod enc P w base sp hd fuel t [v]=some y):
  ∃l:List UInt8,Rep w (.bare fun _=>False) (.by l) v∧v.oneCell'=true∧(l=[]∨ ∃es s,y.1= .slice es s∧l.length=es.length):=by
 rcases open_ints ht he hc hf with ⟨hcs,_⟩|⟨x,len0,cap0,zs,hcs,_,hl,hm,hz,hx,hcell,hwz⟩
 ·obtain rfl:v= .slice none 0 0:=by simpa using hcs
  exact⟨[], .sl _ 1 0 _ none 0 0 0 (fun _ _=>undef) rfl (Nat.le_refl _) (fun h=>by omega) (fun i hi=>by omega) (fun i hi=>by omega),rfl, .inl rfl⟩
 ·obtain rfl:v= .slice (some x) len0 cap0:=by simpa using hcs
  have hlz:len0≤zs.length:=by rw[hz];split<;>omega
  have hlen:((zs.take len0).map u8).length=len0:=by simp;omega
  have hlen2:(zs.take len0).length=len0:=by simp;omega
  refine⟨(zs.take len0).map u8,?_,rfl, .inr ⟨lits .u8 (zs.take len0),lits .u8 (zs.drop len0),by rw[hx],by rw[hlen];unfold lits;rw[List.length_map,hlen2]⟩⟩
  have hw: ∀i,i<len0→0≤zs.getD i 0∧zs.getD i 0<256:=fun i hi=>by
   have hmem:zs.getD i 0∈zs:=by rw[List.getD_eq_getElem?_getD,List.getElem?_eq_getElem (by omega)];exact List.getElem_mem _
   have h1:=hwz _ hmem
   simp only[Lit.wf,Bool.and_eq_true,decide_eq_true_eq] at h1
   have e1:IntKind.u8.min=0:=rfl
   have e2:IntKind.u8.max=255:=rfl
   omega
  have hb2: ∀i,i<len0→byteAt ((zs.take len0).map u8) i=zs.getD i 0:=fun i hi=>by
   obtain⟨h1,h2⟩:=hw i hi
   unfold byteAt
   rw[List.getD_eq_getElem?_getD,List.getElem?_map,List.getElem?_take,if_pos hi,List.getElem?_eq_getElem (by omega)]
   rw[List.getD_eq_getElem?_getD,List.getElem?_eq_getElem (by omega)] at h1 h2⊢
   exact u8_toNat _ h1 h2
  by_cases h0:len0=0
  ·subst h0
   exact .sl _ 1 0 (fun i=> .val (.int .u8 (byteAt ((zs.take 0).map u8) i))) (some x) cap0 0 0 (fun _ _=>undef) rfl hl (fun h=>by omega) (fun i hi=>by omega) (fun i hi=>by omega)
  ·obtain⟨b,off,spot⟩:=x
   have hc0:=hcell 0 (by omega)
   have hspot:spot=none:=by simpa [Addr.add] using World.cell?_spot hc0
   subst hspot
   have hcl: ∀i,i<len0→w.cell? ⟨b,off+i,none⟩=some (.int .u8 (zs.getD i 0)):=fun i hi=>by
    have:=hcell i (by omega)
    rwa [addr_add] at this
   refine .sl _ 1 len0 (fun i=> .val (.int .u8 (byteAt ((zs.take len0).map u8) i))) (some ⟨b,off,none⟩) cap0 b off (fun i _=> .int .u8 (zs.getD i 0)) ?_ hl (fun _=>⟨rfl,cell_lt (hcl 0 (by omega)),fun h=>h⟩) (fun i hi j hj=> ?_) (fun i hi j hj=> ?_)
   ·simp only[V.elems,hlen]
   ·obtain rfl:j=0:=by omega
    rw[Nat.mul_one,Nat.add_zero]
    exact⟨hcl i hi,rfl⟩
   ·obtain rfl:j=0:=by omega
    rw[hb2 i hi]
    exact .val _
theorem arg_key {H:Type} {enc:TypeId×Value→H} {P:Program} {w:World} {base b0:Nat} {sp:Nat→Bool} {hd:Bool} {t i0 i1 b c:TypeId} {f0 f1 f2 f3 f4 f5 f6:Field} {v:Value} {d:DataW H} {ps:List MemPlace}
  (hs:P.underlying t=some (.struct #[f0,f1,f2,f3,f4,f5,f6])) (ce:P.cellsOf t=7) (o0:f0.offset=0) (o1:f1.offset=1) (o2:f2.offset=2) (o3:f3.offset=3) (o4:f4.offset=4) (o5:f5.offset=5) (o6:f6.offset=6)
  (e0:f0.type=i0) (e1:f1.type=i1) (e2:f2.type=b) (e3:f3.type=b) (e4:f4.type=b) (e5:f5.type=b) (e6:f6.type=b) (c0:P.cellsOf i0=1) (c1:P.cellsOf i1=1) (cb:P.cellsOf b=1) (u0:P.underlying i0=some (.int .i64)) (u1:P.underlying i1=some (.int .i64)) (ub:P.underlying b=some (.slice c)) (uc:P.underlying c=some (.int .u8)) (cc:P.cellsOf c=1)
  (hval:Value.okWide P w .any b0 t v) (h:DataW.Trod enc P w base sp hd t v d ps) (hbk:Rows.uptoBulk d≤1048576): ∃(kty crv:Int) (s n e x y:List UInt8),keyOk s n e x y∧Rep w (.bare fun _=>False) (keyV kty crv s n e x y) v:=by
 obtain⟨cs,rfl,hcs⟩:=okWide_struct hs hval
 obtain⟨fuel,hf⟩:=h
 obtain⟨xs,nn,_,hx,hl,hlen,hfd⟩:=DataW.trod_struct hs hf
 rw[ce] at hcs
 have hd:d= .agg (xs.map (·.1)):=(Prod.mk.inj hx).1
 rw[hd,Rows.uptoBulk] at hbk
 match cs,hcs with
 |⟨[v0,v1,v2,v3,v4,v5,v6]⟩,_=>
  have hlen:xs.length=7:=by simpa using hlen
  obtain⟨y0,y1,y2,y3,y4,y5,y6,rfl⟩: ∃y0 y1 y2 y3 y4 y5 y6,xs=[y0,y1,y2,y3,y4,y5,y6]:=by
   match xs,hlen with
   |[y0,y1,y2,y3,y4,y5,y6],_=>exact⟨_,_,_,_,_,_,_,rfl⟩
  ·skip
   have t0:=hfd 0 f0 rfl
   have t1:=hfd 1 f1 rfl
   have t2:=hfd 2 f2 rfl
   have t3:=hfd 3 f3 rfl
   have t4:=hfd 4 f4 rfl
   have t5:=hfd 5 f5 rfl
   have t6:=hfd 6 f6 rfl
   simp only[Value.cells,o0,o1,o2,o3,o4,o5,o6,e0,e1,e2,e3,e4,e5,e6,c0,c1,cb,List.drop_zero,List.drop_succ_cons,List.take_succ_cons,List.take_zero,List.getElem?_cons_zero,List.getElem?_cons_succ] at t0 t1 t2 t3 t4 t5 t6
   obtain⟨m0,h0,_⟩:=DataW.trod_int u0 t0
   obtain⟨m1,h1,_⟩:=DataW.trod_int u1 t1
   obtain rfl:v0= .int .i64 m0:=by simpa using h0
   obtain rfl:v1= .int .i64 m1:=by simpa using h1
   obtain⟨l2,r2,q2,z2⟩:=bytes_trodK ub uc cc t2
   obtain⟨l3,r3,q3,z3⟩:=bytes_trodK ub uc cc t3
   obtain⟨l4,r4,q4,z4⟩:=bytes_trodK ub uc cc t4
   obtain⟨l5,r5,q5,z5⟩:=bytes_trodK ub uc cc t5
   obtain⟨l6,r6,q6,z6⟩:=bytes_trodK ub uc cc t6
   have big: ∀(l:List UInt8) (y:DataW H×List MemPlace),y∈[y0,y1,y2,y3,y4,y5,y6]→(l=[]∨ ∃es s,y.1= .slice es s∧l.length=es.length)→l.length≤16777216:=fun l y hy hz=>by
    rcases hz with rfl|⟨es,sl,hz,hle⟩
    ·simp
    ·have h1:=bulk_memK (List.mem_map_of_mem (f:=(·.1)) hy)
     rw[hz,Rows.uptoBulk] at h1
     have h2:=bulk_lenK es
     omega
   refine⟨m0,m1,l2,l3,l4,l5,l6,⟨big l2 y2 (by simp) z2,big l3 y3 (by simp) z3,big l4 y4 (by simp) z4,big l5 y5 (by simp) z5,big l6 y6 (by simp) z6⟩, .st _ _ (fun j=>[.int .i64 m0, .int .i64 m1,v2,v3,v4,v5,v6].getD j undef) rfl (fun j hj=> ?_) (fun j hj=> ?_)⟩
   ·have:j=0∨j=1∨j=2∨j=3∨j=4∨j=5∨j=6:=by simp at hj;omega
    rcases this with rfl|rfl|rfl|rfl|rfl|rfl|rfl
    ·exact⟨rfl,rfl⟩
    ·exact⟨rfl,rfl⟩
    ·exact⟨rfl,q2⟩
    ·exact⟨rfl,q3⟩
    ·exact⟨rfl,q4⟩
    ·exact⟨rfl,q5⟩
    ·exact⟨rfl,q6⟩
   ·have:j=0∨j=1∨j=2∨j=3∨j=4∨j=5∨j=6:=by simp at hj;omega
    rcases this with rfl|rfl|rfl|rfl|rfl|rfl|rfl
    ·exact .val _
    ·exact .val _
    ·exact r2
    ·exact r3
    ·exact r4
    ·exact r5
    ·exact r6
end Go.Proofs.YtfengpdaocgcnaaGreatDoor
