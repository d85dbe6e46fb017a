/- Whole numbers of any size (bignum): the rest of a division. The curves P-256 and P-384 (curve): the constants, and sums and products modulo the prime. The curves P-256 and P-384 (curve): sums and products modulo the prime; is a point on the curve?. -/
import Derived.Test.YtfengpdaocgcnaaGreatDoorT29
namespace Go.Proofs.YtfengpdaocgcnaaGreatDoor
open Nat (reduceMul reduceLeDiff reduceEqDiff reduceLT reduceAdd reduceSub reduceDiv)
open Int (reduceToNat reducePow)
open Go.RowKit
set_option linter.unusedSimpArgs false
set_option maxRecDepth 100000
theorem pos_and (b:Bool) (n:Nat):(b&&decide (0<(dg n).length))=(b&&decide (n≠0)):=by
 congr 1
 by_cases h:n=0
 ·subst h;rw[dg_zero];rfl
 ·rw[decide_eq_true h]
  exact decide_eq_true (Nat.pos_of_ne_zero fun e=>h (dg_eq_nil.1 (List.length_eq_zero_iff.1 e)))
theorem bQuo_fn (J:Inv) (k kr nx:Nat) (h1:(k=kr)=False) (h2:(kr=k)=False) (b0 v0:V) (bx:Bool) (x y:Nat) (hx:(dg x).length≤100000) (hy:(dg y).length≤100000) (hy3:3≤(dg y).length):FnH Tryz.prog J 258 [.op k 0, .op kr 0,pN y, .op kr 0] [(k, .box 142 (.st [b0,v0])),(kr, .box 142 (bI bx x))] nx (.tu [.op k 0, .op kr 0]) [(k, .box 142 (bI (bx&&decide (x/y≠0)) (x/y))),(kr, .box 142 (bI (bx&&decide (x%y≠0)) (x%y)))] nx:=by
 rw[←pos_and,←pos_and]
 refine fnJ Tryz.func258 rfl (by kernel_rfl) (SBi_ok J nx) rfl ?_
 unfold Tryz.f258
 simp only[bQ,reduceEqDiff,reduceLT,reduceAdd,↓reduceIte,reduceCtorEq,SBi,pN,bI,h1]
 refine DrawC.sch [(0,some []),(1,some []),(2,some []),(3,some []),(4,some []),(5,some []),(6,some []),(7,some []),(8,none),(9,some []),(10,some []),(11,some []),(12,some []),(13,some [])] [] (by kernel_rfl) ?_
 simp only[↓bD,bQ,reduceEqDiff,reduceLT,reduceAdd,↓reduceIte,reduceCtorEq,SBsf,SBnf,SBgh,h1,h2]
 refine⟨.of (by omega), .of (by omega),hy3,by omega,by omega, .inl ?_⟩
 simp only[bQ,reduceLeDiff,reduceEqDiff,reduceAdd,↓reduceIte,h2]
 exact⟨by cases bx<;>rfl,Nat.le_refl _⟩
def SBlh:FuncId→List V→List (Nat×Ob)→Nat→HR:=fun f args h nx=>tabH [(258,fun h nx=>hO fun k=>hO fun kr=>hP fun y=>hE kr (hD (hA h k fun bk vk=>hX h kr fun bx x=>hF [(k=kr)=False,(kr=k)=False,(dg x).length≤100000,(dg y).length≤100000,3≤(dg y).length] [(k, .box 142 (.st [bk,vk])),(kr, .box 142 (bI bx x))] (.tu [.op k 0, .op kr 0]) [(k, .box 142 (bI (bx&&decide (x/y≠0)) (x/y))),(kr, .box 142 (bI (bx&&decide (x%y≠0)) (x%y)))] (nx)))),
 (257,fun h nx=>hO fun k=>hP fun x=>hD (hA h k fun bk vk=>hF [(dg x).length≤100000] [(k, .box 142 (.st [bk,vk]))] (.op k 0) [(k, .box 142 (bI false x))] (nx))),
 (199,fun h nx=>hO fun k=>hE k (hP fun y=>hD (hX h k fun bx x=>hF [(dg x).length≤100000,(dg y).length≤100000] [(k, .box 142 (bI bx x))] (.op k 0) [(k, .box 142 (bI (sumB bx x true y&&decide (0<(dg (sumN bx x true y)).length)) (sumN bx x true y)))] (nx)))),
 (148,fun h nx=>hO fun k=>hE k (hO fun k2=>hD (hX h k fun bx x=>hX h k2 fun bf y=>hF [bf=false,(k=k2)=False,(dg x).length≤100000,(dg y).length≤100000] [(k, .box 142 (bI bx x)),(k2, .box 142 (bI bf y))] (.op k 0) [(k, .box 142 (bI (sumB bx x false y&&decide (0<(dg (sumN bx x false y)).length)) (sumN bx x false y))),(k2, .box 142 (bI false y))] (nx))))] noH f args h nx
theorem SBlh_ok (J:Inv):HTab Tryz.prog J SBlh:=tabH_ok (.c (fun _ nx=> .o fun k=> .o fun kr=> .p fun y=> .e (.d (.A fun bk vk=> .X fun bx x=> .F fun⟨c0,c1,c2,c3,c4,_⟩=>bQuo_fn J k kr nx c0 c1 bk vk bx x y c2 c3 c4)))<|
 .c (fun _ nx=> .o fun k=> .p fun x=> .d (.A fun bk vk=> .F fun⟨c0,_⟩=>bSet_fn J k nx bk vk x c0))<|
 .c (fun _ nx=> .o fun k=> .e (.p fun y=> .d (.X fun bx x=> .F fun⟨c0,c1,_⟩=>bSubO_fn J k nx bx x y c0 c1)))<|
 .c (fun _ nx=> .o fun k=> .e (.o fun k2=> .d (.X fun bx x=> .X fun _ y=> .F fun⟨c0,c1,c2,c3,_⟩=>(by subst c0;exact bAddO_fn J k nx k2 c1 bx x y c2 c3))))<| .n) noH_ok
def SBpf:FuncId→List V→CR:=fun f args=>tab [(200,cI .i64 fun n=>cF [0≤n,n<9223372036854775808] false (pN n.toNat))] noF f args
def SBp (J:Inv):Sig:=⟨J,sdf,SBpf,noH,0⟩
theorem SBp_ok (J:Inv):SigOk Tryz.prog (SBp J):= .plain (tab_ok (.c (.i fun n=> .z fun⟨c0,_,_⟩=>(by have h:=newInt_fn J n.toNat (by omega);rwa [show V.i (n.toNat:Int)= .val (.int .i64 n) by unfold V.i;rw[Int.toNat_of_nonneg c0]] at h))<| .n) noF_ok)
def SBq (J:Inv) (b:Nat):Sig:=⟨J,sdf,SBpf,SBlh,b⟩
theorem SBq_ok (J:Inv) (b:Nat):SigOk Tryz.prog (SBq J b):=⟨(SBp_ok J).1,SBlh_ok J⟩
def modS (bx:Bool) (n p:Nat):Nat:=if bx=true∧n%p≠0 then p-n%p else n%p
theorem bDiv1_fn (J:Inv) (k kr nx:Nat) (h1:(k=kr)=False) (h2:(kr=k)=False) (h3:k<nx) (h4:kr<nx) (b0 v0:V) (bx:Bool) (x y:Nat) (hx:(dg x).length≤90000) (hy:(dg y).length≤90000) (hy3:3≤(dg y).length) (hb:bx=true∧x%y≠0):FnH Tryz.prog J 235 [.op k 0, .op kr 0,pN y, .op kr 0] [(k, .box 142 (.st [b0,v0])),(kr, .box 142 (bI bx x))] nx (.tu [.op k 0, .op kr 0]) [(k, .box 142 (bI (sumB (bx&&decide (¬x/y=0)) (x/y) true 1&&decide (0<(dg (sumN (bx&&decide (¬x/y=0)) (x/y) true 1)).length)) (sumN (bx&&decide (¬x/y=0)) (x/y) true 1))),(kr, .box 142 (bI false (modS bx x y)))] (nx+1):=by
 have h5:(nx=k)=False:=eq_false (by omega)
 have h6:(nx=kr)=False:=eq_false (by omega)
 have h7:(k=nx)=False:=eq_false (by omega)
 have h8:(kr=nx)=False:=eq_false (by omega)
 have hy0:0<y:=Nat.pos_of_ne_zero fun e=>by rw[e,dg_zero] at hy3;exact absurd hy3 (by simp)
 have l1:=dg_mono (Nat.div_le_self x y)
 have l2:=dg_mono (Nat.mod_le x y)
 have l3:(dg 1).length≤1:=dg_len (by omega)
 have hm:=Nat.mod_lt x hy0
 have eb:(bx&&decide (¬x%y=0))=true:=by rw[hb.1,decide_eq_true hb.2];rfl
 have em:modS bx x y=y-x%y:=if_pos hb
 have es:sumN true (x%y) false y=y-x%y:=by
  unfold sumN
  rw[if_neg (by simp),if_neg (by omega)]
 have et:sumB true (x%y) false y=false:=by
  unfold sumB
  rw[if_neg (by simp),if_neg (by omega)]
 refine fnJ Tryz.func235 rfl (by kernel_rfl) (SBq_ok J nx) rfl ?_
 unfold Tryz.f235
 simp only[↓bD,bQ,reduceEqDiff,reduceLT,reduceAdd,↓reduceIte,reduceCtorEq,reduceToNat,SBq,SBpf,SBlh,pN,bI,h1,h2,h5,h6,h7,h8,eb,es,et,em]
 refine⟨by omega,by omega,by omega,hy3,by omega,by omega,by omega,by omega,by omega,by omega, .inl ?_⟩
 simp only[bQ,reduceLeDiff,reduceEqDiff,reduceAdd,↓reduceIte,h2,h5]
 exact Nat.le_refl _
theorem bDiv0_fn (J:Inv) (k kr nx:Nat) (h1:(k=kr)=False) (h2:(kr=k)=False) (h3:k<nx) (h4:kr<nx) (b0 v0:V) (bx:Bool) (x y:Nat) (hx:(dg x).length≤90000) (hy:(dg y).length≤90000) (hy3:3≤(dg y).length) (hb: ¬(bx=true∧x%y≠0)):FnH Tryz.prog J 235 [.op k 0, .op kr 0,pN y, .op kr 0] [(k, .box 142 (.st [b0,v0])),(kr, .box 142 (bI bx x))] nx (.tu [.op k 0, .op kr 0]) [(k, .box 142 (bI (bx&&decide (¬x/y=0)) (x/y))),(kr, .box 142 (bI false (modS bx x y)))] (nx+1):=by
 have h5:(nx=k)=False:=eq_false (by omega)
 have h6:(nx=kr)=False:=eq_false (by omega)
 have h7:(k=nx)=False:=eq_false (by omega)
 have h8:(kr=nx)=False:=eq_false (by omega)
 have hy0:0<y:=Nat.pos_of_ne_zero fun e=>by rw[e,dg_zero] at hy3;exact absurd hy3 (by simp)
 have l1:=dg_mono (Nat.div_le_self x y)
 have l2:=dg_mono (Nat.mod_le x y)
 have l3:(dg 1).length≤1:=dg_len (by omega)
 have hm:=Nat.mod_lt x hy0
 have eb:(bx&&decide (¬x%y=0))=false:=by
  cases bx
  ·rfl
  ·rw[Bool.true_and];exact decide_eq_false fun h=>hb ⟨rfl,h⟩
 have em:modS bx x y=x%y:=if_neg hb
 refine fnJ Tryz.func235 rfl (by kernel_rfl) (SBq_ok J nx) rfl ?_
 unfold Tryz.f235
 simp only[↓bD,bQ,reduceEqDiff,reduceLT,reduceAdd,↓reduceIte,reduceCtorEq,SBq,SBlh,pN,bI,h1,h2,h5,h6,h7,h8,eb,em]
 refine⟨by omega,by omega,by omega,hy3, .inl ?_⟩
 simp only[bQ,reduceLeDiff,reduceEqDiff,reduceAdd,↓reduceIte,h1]
 exact Nat.le_refl _
def divC (bx:Bool) (x y:Nat):V:=if bx=true∧x%y≠0 then (bI (sumB (bx&&decide (¬x/y=0)) (x/y) true 1&&decide (0<(dg (sumN (bx&&decide (¬x/y=0)) (x/y) true 1)).length)) (sumN (bx&&decide (¬x/y=0)) (x/y) true 1)) else (bI (bx&&decide (¬x/y=0)) (x/y))
theorem bDiv_fn (J:Inv) (k kr nx:Nat) (h1:(k=kr)=False) (h2:(kr=k)=False) (h3:k<nx) (h4:kr<nx) (b0 v0:V) (bx:Bool) (x y:Nat) (hx:(dg x).length≤90000) (hy:(dg y).length≤90000) (hy3:3≤(dg y).length):FnH Tryz.prog J 235 [.op k 0, .op kr 0,pN y, .op kr 0] [(k, .box 142 (.st [b0,v0])),(kr, .box 142 (bI bx x))] nx (.tu [.op k 0, .op kr 0]) [(k, .box 142 (divC bx x y)),(kr, .box 142 (bI false (modS bx x y)))] (nx+1):=by
 unfold divC
 by_cases hb:bx=true∧x%y≠0
 ·rw[if_pos hb];exact bDiv1_fn J k kr nx h1 h2 h3 h4 b0 v0 bx x y hx hy hy3 hb
 ·rw[if_neg hb];exact bDiv0_fn J k kr nx h1 h2 h3 h4 b0 v0 bx x y hx hy hy3 hb
def SBrh:FuncId→List V→List (Nat×Ob)→Nat→HR:=fun f args h nx=>tabH [(235,fun h nx=>hO fun k=>hO fun kr=>hP fun y=>hE kr (hD (hA h k fun bk vk=>hX h kr fun bx x=>hF [(k=kr)=False,(kr=k)=False,k<nx,kr<nx,(dg x).length≤90000,(dg y).length≤90000,3≤(dg y).length] [(k, .box 142 (.st [bk,vk])),(kr, .box 142 (bI bx x))] (.tu [.op k 0, .op kr 0]) [(k, .box 142 (divC bx x y)),(kr, .box 142 (bI false (modS bx x y)))] (nx+1))))] noH f args h nx
theorem SBrh_ok (J:Inv):HTab Tryz.prog J SBrh:=tabH_ok (.c (fun _ nx=> .o fun k=> .o fun kr=> .p fun y=> .e (.d (.A fun bk vk=> .X fun bx x=> .F fun⟨c0,c1,c2,c3,c4,c5,c6,_⟩=>bDiv_fn J k kr nx c0 c1 c2 c3 bk vk bx x y c4 c5 c6)))<| .n) noH_ok
def SBr (J:Inv) (b:Nat):Sig:=⟨J,sdf,SBpf,SBrh,b⟩
theorem SBr_ok (J:Inv) (b:Nat):SigOk Tryz.prog (SBr J b):=⟨(SBp_ok J).1,SBrh_ok J⟩
theorem bMod_fn (J:Inv) (k nx:Nat) (h1:k<nx) (bx:Bool) (x y:Nat) (hx:(dg x).length≤90000) (hy:(dg y).length≤90000) (hy3:3≤(dg y).length):FnH Tryz.prog J 201 [.op k 0, .op k 0,pN y] [(k, .box 142 (bI bx x))] nx (.op k 0) [(k, .box 142 (bI false (modS bx x y)))] (nx+2):=by
 have h2:(k=nx)=False:=eq_false (by omega)
 have h3:(nx=k)=False:=eq_false (by omega)
 refine fnJ Tryz.func201 rfl (by kernel_rfl) (SBr_ok J nx) rfl ?_
 unfold Tryz.f201
 simp only[↓bD,bQ,reduceEqDiff,reduceAdd,↓reduceIte,reduceCtorEq,SBr,SBrh,pN,bI,h2,h3]
 refine⟨by omega,by omega,hx,hy,hy3, .inl ?_⟩
 simp only[bQ,reduceLeDiff,↓reduceIte,h3]
 exact Nat.le_refl _
theorem FnH.lend_box {P:Program} {J:Inv} {f:FuncId} {args:List V} {h:List (Nat×Ob)} {k nx nx':Nat} {ty:TypeId} {cs:List V} (hf:FnH P J f args h nx (.op k 0) [(k, .box ty (.st cs))] nx') (h0:0<cs.length):FnH P J f args h nx (.pe (.sq cs.length .any [.st cs]) 0 0) [] nx':=by
 refine⟨hf.1,fun w F vs hmem0 hlen hvs=> ?_⟩
 refine(hf.2 w F vs hmem0 hlen hvs).mono fun e w' ⟨v,G,he,hev,hle,hkeep,hmem,hown,hrep⟩=> ?_
 have hk:Hroot [(k,Ob.box ty (.st cs))] k=some (.box ty (.st cs)):=by simp[Hroot]
 obtain⟨b,hO,rfl⟩:=rep_op hrep
 obtain⟨b',cells,u,hO',hheap,hsz,h1,h2,h3⟩:=hmem.own (.r k) _ hk
 rw[hO] at hO'
 obtain rfl:b=b':=by simpa using hO'
 have hb0:=hown (.r k) _ b hk (by simp[Cx.blk,hO])
 refine⟨_,⟨fun b'=>G.F b'∧b'≠b,G.O,G.W⟩,he,hev,⟨fun b' hb'=>hle.le1 b' hb'.1,hle.le2,hle.le3⟩,fun b' hb' hn=>⟨hkeep b' hb' hn,fun e=> ?_⟩,⟨fun b' hb'=>hmem.flt b' hb'.1,hmem.nx,fun m o hm=>by cases m<;>simp[Hget,Hroot,Hchild] at hm,fun m m' o o' g hm=>by cases m<;>simp[Hget,Hroot,Hchild] at hm,hmem.wsl,J.out hmem.inv (Nat.le_refl _) (fun _ _ _=>rfl) fun b hb=> .inl hb.1⟩,fun m o g hm=>by cases m<;>simp[Hget,Hroot,Hchild] at hm,?_⟩
 ·subst e
  rcases hb0 with h|h
  ·exact hn h
  ·exact absurd (hmem0.flt b' hb') (by omega)
 ·have hcs:(V.st cs).csize=cs.length:=rfl
  have hp:Rep w' ⟨fun b'=>G.F b'∧b'≠b,G.O,G.W⟩ (.pe (.sq cs.length .any [.st cs]) 0 0) (.pointer (some ⟨b,0+(0*cs.length+0),none⟩)):=by
   refine .pe (.sq cs.length .any [.st cs]) cs.length 1 (fun i=>[V.st cs].getD i .any) 0 0 b 0 (fun _ j=>u j) (by simp only[V.elems,List.length_singleton];rw[if_neg (by omega)]) (by omega) (heap_lt hheap) (fun hb=>hb.2 rfl) (fun i hi j hj=> ?_) (fun i hi j hj=> ?_)
   ·obtain rfl:i=0:=by omega
    have h3:=h1 j (by rw[hcs];exact hj)
    rw[show 0+(0*cs.length+j)=j by omega]
    exact⟨(cell0 hheap j).trans h3.1,h3.2⟩
   ·obtain rfl:i=0:=by omega
    have h3:=h2 j (by rw[hcs];exact hj)
    exact h3.le ⟨fun b hb=> .inl hb.1,fun _ _ h=>h,fun _ _ h=>h⟩
  rw[show 0+(0*cs.length+0)=0 by omega] at hp
  exact hp
def SCah:FuncId→List V→List (Nat×Ob)→Nat→HR:=fun f args h nx=>tabH [(195,fun h nx=>hO fun k=>hS fun s=>hI .i64 fun n=>hD (hA h k fun bk vk=>hF [n=16,s.length≤1000,s.length≠0,HexOk s] [(k, .box 142 (.st [bk,vk]))] (.tu [.op k 0, .bb true]) [(k, .box 142 (bI false (hexN s)))] (nx)))] noH f args h nx
theorem SCah_ok (J:Inv):HTab Tryz.prog J SCah:=tabH_ok (.c (fun _ nx=> .o fun k=> .s fun s=> .i fun _=> .d (.A fun bk vk=> .F fun⟨c0,c1,c2,c3,_⟩=>(by subst c0;exact setString_fn J k nx bk vk s c1 c2 c3)))<| .n) noH_ok
def SCa (J:Inv) (b:Nat):Sig:=⟨J,sdf,SBsf,SCah,b⟩
theorem SCa_ok (J:Inv) (b:Nat):SigOk Tryz.prog (SCa J b):=⟨(SBs_ok J).1,SCah_ok J⟩
theorem number16_fn (J:Inv) (s:List UInt8) (h1:s.length≤1000) (h0:s.length≠0) (hx:HexOk s):Fn Tryz.prog J 139 false [.str s] (pN (hexN s)):=by
 refine Fn.of_box (k:=0) (nx:=1) (ty:=142) (post:=[(0, .box 142 (bI false (hexN s)))]) ?_ rfl (by simp[clL,V.cl,wV,wds_cl]) (by simp)
 refine fnJ Tryz.func139 rfl (by kernel_rfl) (SCa_ok J 0) rfl ?_
 unfold Tryz.f139
 simp only[↓bD,bQ,reduceEqDiff,reduceLT,reduceAdd,↓reduceIte,reduceCtorEq,SCa,SCah,bI]
 refine⟨h1,h0,hx, .inl ?_⟩
 simp only[bQ,reduceLeDiff,↓reduceIte]
def hexB (s:List UInt8):Bool:=s.all fun c=>(Nat.ble 48 c.toNat&&Nat.ble c.toNat 57)||(Nat.ble 97 c.toNat&&Nat.ble c.toNat 102)
theorem hexB_ok {s:List UInt8} (h:hexB s=true):HexOk s:=fun c hc=>by
 have:=List.all_eq_true.1 h c hc
 simp only[Bool.or_eq_true,Bool.and_eq_true] at this
 rcases this with ⟨a,b⟩|⟨a,b⟩
 ·exact .inl ⟨Nat.le_of_ble_eq_true a,Nat.le_of_ble_eq_true b⟩
 ·exact .inr ⟨Nat.le_of_ble_eq_true a,Nat.le_of_ble_eq_true b⟩
def hp256:List UInt8:=[102,102,102,102,102,102,102,102,48,48,48,48,48,48,48,49,48,48,48,48,48,48,48,48,48,48,48,48,48,48,48,48,48,48,48,48,48,48,48,48,102,102,102,102,102,102,102,102,102,102,102,102,102,102,102,102,102,102,102,102,102,102,102,102]
def hb256:List UInt8:=[53,97,99,54,51,53,100,56,97,97,51,97,57,51,101,55,98,51,101,98,98,100,53,53,55,54,57,56,56,54,98,99,54,53,49,100,48,54,98,48,99,99,53,51,98,48,102,54,51,98,99,101,51,99,51,101,50,55,100,50,54,48,52,98]
def hn256:List UInt8:=[102,102,102,102,102,102,102,102,48,48,48,48,48,48,48,48,102,102,102,102,102,102,102,102,102,102,102,102,102,102,102,102,98,99,101,54,102,97,97,100,97,55,49,55,57,101,56,52,102,51,98,57,99,97,99,50,102,99,54,51,50,53,53,49]
def hx256:List UInt8:=[54,98,49,55,100,49,102,50,101,49,50,99,52,50,52,55,102,56,98,99,101,54,101,53,54,51,97,52,52,48,102,50,55,55,48,51,55,100,56,49,50,100,101,98,51,51,97,48,102,52,97,49,51,57,52,53,100,56,57,56,99,50,57,54]
def hy256:List UInt8:=[52,102,101,51,52,50,101,50,102,101,49,97,55,102,57,98,56,101,101,55,101,98,52,97,55,99,48,102,57,101,49,54,50,98,99,101,51,51,53,55,54,98,51,49,53,101,99,101,99,98,98,54,52,48,54,56,51,55,98,102,53,49,102,53]
def hp384:List UInt8:=[102,102,102,102,102,102,102,102,102,102,102,102,102,102,102,102,102,102,102,102,102,102,102,102,102,102,102,102,102,102,102,102,102,102,102,102,102,102,102,102,102,102,102,102,102,102,102,102,102,102,102,102,102,102,102,102,102,102,102,102,102,102,102,101,102,102,102,102,102,102,102,102,48,48,48,48,48,48,48,48,48,48,48,48,48,48,48,48,102,102,102,102,102,102,102,102]
def hb384:List UInt8:=[98,51,51,49,50,102,97,55,101,50,51,101,101,55,101,52,57,56,56,101,48,53,54,98,101,51,102,56,50,100,49,57,49,56,49,100,57,99,54,101,102,101,56,49,52,49,49,50,48,51,49,52,48,56,56,102,53,48,49,51,56,55,53,97,99,54,53,54,51,57,56,100,56,97,50,101,100,49,57,100,50,97,56,53,99,56,101,100,100,51,101,99,50,97,101,102]
def hn384:List UInt8:=[102,102,102,102,102,102,102,102,102,102,102,102,102,102,102,102,102,102,102,102,102,102,102,102,102,102,102,102,102,102,102,102,102,102,102,102,102,102,102,102,102,102,102,102,102,102,102,102,99,55,54,51,52,100,56,49,102,52,51,55,50,100,100,102,53,56,49,97,48,100,98,50,52,56,98,48,97,55,55,97,101,99,101,99,49,57,54,97,99,99,99,53,50,57,55,51]
def hx384:List UInt8:=[97,97,56,55,99,97,50,50,98,101,56,98,48,53,51,55,56,101,98,49,99,55,49,101,102,51,50,48,97,100,55,52,54,101,49,100,51,98,54,50,56,98,97,55,57,98,57,56,53,57,102,55,52,49,101,48,56,50,53,52,50,97,51,56,53,53,48,50,102,50,53,100,98,102,53,53,50,57,54,99,51,97,53,52,53,101,51,56,55,50,55,54,48,97,98,55]
def hy384:List UInt8:=[51,54,49,55,100,101,52,97,57,54,50,54,50,99,54,102,53,100,57,101,57,56,98,102,57,50,57,50,100,99,50,57,102,56,102,52,49,100,98,100,50,56,57,97,49,52,55,99,101,57,100,97,51,49,49,51,98,53,102,48,98,56,99,48,48,97,54,48,98,49,99,101,49,100,55,101,56,49,57,100,55,97,52,51,49,100,55,99,57,48,101,97,48,101,53,102]
def SCbf:FuncId→List V→CR:=fun f args=>tab [(139,cS fun t=>cF [t.length≤1000,t.length≠0,hexB t=true] false (pN (hexN t)))] noF f args
def SCb (J:Inv):Sig:=⟨J,sdf,SCbf,noH,0⟩
theorem SCb_ok (J:Inv):SigOk Tryz.prog (SCb J):= .plain (tab_ok (.c (.s fun t=> .z fun⟨c0,c1,c2,_⟩=>number16_fn J t c0 c1 (hexB_ok c2))<| .n) noF_ok)
def SCbb (J:Inv) (b:Nat):Sig:=⟨J,sdf,SCbf,noH,b⟩
theorem SCbb_ok (J:Inv) (b:Nat):SigOk Tryz.prog (SCbb J b):=⟨(SCb_ok J).1,(SCb_ok J).2⟩
def stepV:V:= .val (.func (.func 140) #[] #[])
def grV (p b n x y:List UInt8) (size:Nat):V:= .pe (.sq 7 .any [.st [pN (hexN p),pN (hexN b),pN (hexN n),pN (hexN x),pN (hexN y), .i size,stepV]]) 0 0
theorem p256_fn (J:Inv):Fn Tryz.prog J 90 false [] (grV hp256 hb256 hn256 hx256 hy256 32):=by
 refine Fn.of_box (k:=0) (nx:=1) (ty:=97) (post:=[(0, .box 97 (.st [pN (hexN hp256),pN (hexN hb256),pN (hexN hn256),pN (hexN hx256),pN (hexN hy256), .i 32,stepV]))]) ?_ rfl (by simp[clL,V.cl,V.i,stepV,pN,wV,wds_cl]) (by simp)
 refine fnJ Tryz.func90 rfl (by kernel_rfl) (SCbb_ok J 0) rfl ?_
 unfold Tryz.f90
 simp only[↓bD,bQ,reduceLeDiff,reduceEqDiff,reduceLT,reduceAdd,↓reduceIte,reduceCtorEq,SCbb,SCbf,pN]
 refine⟨by kernel_rfl,by kernel_rfl,by kernel_rfl,by kernel_rfl,by kernel_rfl, .inl ?_⟩
 simp only[bQ,reduceLeDiff,↓reduceIte,hp256,hb256,hn256,hx256,hy256,stepV]
theorem p384_fn (J:Inv):Fn Tryz.prog J 91 false [] (grV hp384 hb384 hn384 hx384 hy384 48):=by
 refine Fn.of_box (k:=0) (nx:=1) (ty:=97) (post:=[(0, .box 97 (.st [pN (hexN hp384),pN (hexN hb384),pN (hexN hn384),pN (hexN hx384),pN (hexN hy384), .i 48,stepV]))]) ?_ rfl (by simp[clL,V.cl,V.i,stepV,pN,wV,wds_cl]) (by simp)
 refine fnJ Tryz.func91 rfl (by kernel_rfl) (SCbb_ok J 0) rfl ?_
 unfold Tryz.f91
 simp only[↓bD,bQ,reduceLeDiff,reduceEqDiff,reduceLT,reduceAdd,↓reduceIte,reduceCtorEq,SCbb,SCbf,pN,List.append_eq]
 refine⟨by kernel_rfl,by kernel_rfl,by kernel_rfl,by kernel_rfl,by kernel_rfl, .inl ?_⟩
 simp only[bQ,reduceLeDiff,↓reduceIte,hp384,hb384,hn384,hx384,hy384,stepV]
def SCcf:FuncId→List V→CR:=fun f args=>tab [(90,cF [] false (grV hp256 hb256 hn256 hx256 hy256 32)),
 (91,cF [] false (grV hp384 hb384 hn384 hx384 hy384 48))] noF f args
def SCc (J:Inv):Sig:=⟨J,sdf,SCcf,noH,0⟩
theorem SCc_ok (J:Inv):SigOk Tryz.prog (SCc J):= .plain (tab_ok (.c (.z fun _=>p256_fn J)<|
 .c (.z fun _=>p384_fn J)<| .n) noF_ok)
def ofV (c:Int):V:=if c=1 then grV hp256 hb256 hn256 hx256 hy256 32 else if c=2 then grV hp384 hb384 hn384 hx384 hy384 48 else .val (.pointer none)
theorem grV_cl (p b n x y:List UInt8) (size:Nat):(grV p b n x y size).cl=true:=by simp[grV,clL,V.cl,V.i,stepV,pN,wV,wds_cl]
theorem of1_fn (J:Inv):Fn Tryz.prog J 54 false [.i 1] (grV hp256 hb256 hn256 hx256 hy256 32):=by
 refine fnI Tryz.func54 rfl (by kernel_rfl) (grV_cl ..) (SCc_ok J) ?_
 unfold Tryz.f54
 simp only[↓bD,bQ,↓reduceIte,reduceCtorEq,SCc,SCcf,grV,pN,stepV]
 skip
theorem of2_fn (J:Inv):Fn Tryz.prog J 54 false [.i 2] (grV hp384 hb384 hn384 hx384 hy384 48):=by
 refine fnI Tryz.func54 rfl (by kernel_rfl) (grV_cl ..) (SCc_ok J) ?_
 unfold Tryz.f54
 simp only[↓bD,bQ,reduceEqDiff,↓reduceIte,reduceCtorEq,SCc,SCcf,grV,pN,stepV,show((2:Int)==1)=false from rfl]
 skip
theorem of0_fn (J:Inv) (c:Int) (h1:c≠1) (h2:c≠2):Fn Tryz.prog J 54 false [.val (.int .i64 c)] (.val (.pointer none)):=by
 refine fnI Tryz.func54 rfl (by kernel_rfl) rfl (SCc_ok J) ?_
 unfold Tryz.f54
 have e1:(c==1)=false:=by rw[beq_eq_false_iff_ne];exact h1
 have e2:(c==2)=false:=by rw[beq_eq_false_iff_ne];exact h2
 simp only[↓bD,bQ,reduceEqDiff,↓reduceIte,reduceCtorEq,SCc,e1,e2]
theorem of_fn (J:Inv) (c:Int):Fn Tryz.prog J 54 false [.val (.int .i64 c)] (ofV c):=by
 unfold ofV
 by_cases h1:c=1
 ·rw[if_pos h1];subst h1;exact of1_fn J
 ·rw[if_neg h1]
  by_cases h2:c=2
  ·rw[if_pos h2];subst h2;exact of2_fn J
  ·rw[if_neg h2];exact of0_fn J c h1 h2
def gV (p b:Nat) (gN gX gY gS gF:V):V:= .pe (.sq 7 .any [.st [pN p,pN b,gN,gX,gY,gS,gF]]) 0 0
def cG (k:Nat→Nat→V→V→V→V→V→List V→CR):List V→CR
 | .pe (.sq 7 .any [.st [.pe (.sq 2 .any [.st [.bb false, .sq 1 d L]]) 0 0, .pe (.sq 2 .any [.st [.bb false, .sq 1 d' L']]) 0 0,gN,gX,gY,gS,gF]]) 0 0::r=>cpre [d= .val (.int .u32 0),L=wds (dg (vl (unW L))),d'= .val (.int .u32 0),L'=wds (dg (vl (unW L')))] (k (vl (unW L)) (vl (unW L')) gN gX gY gS gF r)
 |_=>none
def hG (k:Nat→Nat→V→V→V→V→V→List V→HR):List V→HR
 | .pe (.sq 7 .any [.st [.pe (.sq 2 .any [.st [.bb false, .sq 1 d L]]) 0 0, .pe (.sq 2 .any [.st [.bb false, .sq 1 d' L']]) 0 0,gN,gX,gY,gS,gF]]) 0 0::r=>hpre [d= .val (.int .u32 0),L=wds (dg (vl (unW L))),d'= .val (.int .u32 0),L'=wds (dg (vl (unW L')))] (k (vl (unW L)) (vl (unW L')) gN gX gY gS gF r)
 |_=>none
theorem EntAt.g {P:Program} {J:Inv} {f:FuncId} {mk:List V→List V} {k:Nat→Nat→V→V→V→V→V→List V→CR} (h: ∀p b gN gX gY gS gF,EntAt P J f (fun r=>mk (gV p b gN gX gY gS gF::r)) (k p b gN gX gY gS gF)):EntAt P J f mk (cG k):=fun args l fr r hk hl=>by
 unfold cG at hk
 split at hk
 ·rename_i d L d' L' gN gX gY gS gF rest
  obtain⟨l',h2,rfl⟩:=cpre_some hk
  obtain⟨q1,q2,q3,q4, -⟩:=hl.un
  have:=h _ _ _ _ _ _ _ rest l' fr r h2 hl.r
  rw[q1,q3]
  unfold gV pN wV at this
  rw[←q2,←q4] at this
  exact this
 ·cases hk
theorem EntH.g {P:Program} {J:Inv} {f:FuncId} {nx:Nat} {mk:List V→List V} {k:Nat→Nat→V→V→V→V→V→List V→HR} (h: ∀p b gN gX gY gS gF,EntH P J f nx (fun r=>mk (gV p b gN gX gY gS gF::r)) (k p b gN gX gY gS gF)):EntH P J f nx mk (hG k):=fun args=>by
 unfold hG
 split
 ·rename_i d L d' L' gN gX gY gS gF rest
  exact .un fun q=>by
   obtain⟨q1,q2,q3,q4, -⟩:=q
   have:=h (vl (unW L)) (vl (unW L')) gN gX gY gS gF rest
   rw[q1,q3]
   unfold gV pN wV at this
   rw[←q2,←q4] at this
   exact this
 ·exact .no
def SDah:FuncId→List V→List (Nat×Ob)→Nat→HR:=fun f args h nx=>tabH [(201,fun h nx=>hO fun k=>hE k (hP fun y=>hD (hX h k fun bx x=>hF [k<nx,(dg x).length≤90000,(dg y).length≤90000,3≤(dg y).length] [(k, .box 142 (bI bx x))] (.op k 0) [(k, .box 142 (bI false (modS bx x y)))] (nx+2))))] noH f args h nx
theorem SDah_ok (J:Inv):HTab Tryz.prog J SDah:=tabH_ok (.c (fun _ nx=> .o fun k=> .e (.p fun y=> .d (.X fun bx x=> .F fun⟨c0,c1,c2,c3,_⟩=>bMod_fn J k nx c0 bx x y c1 c2 c3)))<| .n) noH_ok
def SDa (J:Inv) (b:Nat):Sig:=⟨J,sdf,SBsf,SDah,b⟩
theorem SDa_ok (J:Inv) (b:Nat):SigOk Tryz.prog (SDa J b):=⟨(SBs_ok J).1,SDah_ok J⟩
section
variable (J:Inv) (p b:Nat) (gN gX gY gS gF:V) (hp:(dg p).length≤100) (hp3:3≤(dg p).length)
include hp hp3
theorem gmod_fn (k nx:Nat) (h1:k<nx) (bx:Bool) (x:Nat) (hx:(dg x).length≤1000):FnH Tryz.prog J 147 [gV p b gN gX gY gS gF, .op k 0] [(k, .box 142 (bI bx x))] nx (.op k 0) [(k, .box 142 (bI false (modS bx x p)))] (nx+2):=by
 refine fnJ Tryz.func147 rfl (by kernel_rfl) (SDa_ok J nx) rfl ?_
 unfold Tryz.f147
 simp only[↓bD,bQ,reduceEqDiff,reduceLT,reduceAdd,↓reduceIte,reduceCtorEq,SDa,SDah,gV,pN,bI]
 refine⟨h1,by omega,by omega,hp3, .inl ?_⟩
 simp only[bQ,reduceLeDiff,↓reduceIte]
 exact Nat.le_refl _
end
def SDbh:FuncId→List V→List (Nat×Ob)→Nat→HR:=fun f args h nx=>tabH [(147,fun h nx=>hG fun p _ _ _ _ _ _=>hO fun k=>hD (hX h k fun bx x=>hF [k<nx,(dg p).length≤100,3≤(dg p).length,(dg x).length≤1000] [(k, .box 142 (bI bx x))] (.op k 0) [(k, .box 142 (bI false (modS bx x p)))] (nx+2))),
 (198,fun h nx=>hO fun k=>hP fun x=>hP fun y=>hD (hA h k fun bk vk=>hF [(dg x).length≤100000,(dg y).length≤100000] [(k, .box 142 (.st [bk,vk]))] (.op k 0) [(k, .box 142 (bI false (x*y)))] (nx))),
 (199,fun h nx=>hO fun k=>hP fun x=>hP fun y=>hD (hA h k fun bk vk=>hF [(dg x).length≤100000,(dg y).length≤100000] [(k, .box 142 (.st [bk,vk]))] (.op k 0) [(k, .box 142 (bI (decide (x<y)) (if y≤x then x-y else y-x)))] (nx)))] noH f args h nx
theorem SDbh_ok (J:Inv):HTab Tryz.prog J SDbh:=tabH_ok (.c (fun _ nx=> .g fun p b gN gX gY gS gF=> .o fun k=> .d (.X fun bx x=> .F fun⟨c0,c1,c2,c3,_⟩=>gmod_fn J p b gN gX gY gS gF c1 c2 k nx c0 bx x c3))<|
 .c (fun _ nx=> .o fun k=> .p fun x=> .p fun y=> .d (.A fun bk vk=> .F fun⟨c0,c1,_⟩=>bMul_fn J k nx bk vk x y c0 c1))<|
 .c (fun _ nx=> .o fun k=> .p fun x=> .p fun y=> .d (.A fun bk vk=> .F fun⟨c0,c1,_⟩=>bSub_fn J k nx bk vk x y c0 c1))<| .n) noH_ok
def SDb (J:Inv) (b:Nat):Sig:=⟨J,sdf,SBsf,SDbh,b⟩
theorem SDb_ok (J:Inv) (b:Nat):SigOk Tryz.prog (SDb J b):=⟨(SBs_ok J).1,SDbh_ok J⟩
def gsub (x y p:Nat):Nat:=modS (decide (x<y)) (if y≤x then x-y else y-x) p
theorem modS_false (x p:Nat):modS false x p=x%p:=by unfold modS;rw[if_neg (by simp)]
section
variable (J:Inv) (p b:Nat) (gN gX gY gS gF:V) (hp:(dg p).length≤100) (hp3:3≤(dg p).length)
include hp hp3
theorem gmulH_fn (nx x y:Nat) (hx:(dg x).length≤200) (hy:(dg y).length≤200):FnH Tryz.prog J 144 [gV p b gN gX gY gS gF,pN x,pN y] [] nx (.op nx 0) [(nx, .box 142 (bI false (x*y%p)))] (nx+3):=by
 refine fnJ Tryz.func144 rfl (by kernel_rfl) (SDb_ok J nx) rfl ?_
 unfold Tryz.f144
 simp only[↓bD,bQ,reduceEqDiff,reduceAdd,↓reduceIte,reduceCtorEq,hG,SDb,SDbh,gV,pN,bI,modS_false]
 have hl:=dg_prod_len hx hy
 refine⟨by omega,by omega,by omega,hp,hp3,by omega, .inl ?_⟩
 simp only[bQ,reduceLeDiff,↓reduceIte]
 exact Nat.le_refl _
theorem gsubH_fn (nx x y:Nat) (hx:(dg x).length≤200) (hy:(dg y).length≤200):FnH Tryz.prog J 145 [gV p b gN gX gY gS gF,pN x,pN y] [] nx (.op nx 0) [(nx, .box 142 (bI false (gsub x y p)))] (nx+3):=by
 refine fnJ Tryz.func145 rfl (by kernel_rfl) (SDb_ok J nx) rfl ?_
 unfold Tryz.f145
 simp only[↓bD,bQ,reduceEqDiff,reduceAdd,↓reduceIte,reduceCtorEq,hG,SDb,SDbh,gV,pN,bI]
 have hl:(dg (if y≤x then x-y else y-x)).length≤1000:=by
  split
  ·have:=dg_mono (Nat.sub_le x y);omega
  ·have:=dg_mono (Nat.sub_le y x);omega
 refine⟨by omega,by omega,by omega,hp,hp3,hl, .inl ?_⟩
 simp only[bQ,reduceLeDiff,↓reduceIte,gsub]
 exact Nat.le_refl _
theorem gmul_fn (x y:Nat) (hx:(dg x).length≤200) (hy:(dg y).length≤200):Fn Tryz.prog J 144 false [gV p b gN gX gY gS gF,pN x,pN y] (pN (x*y%p)):=
 Fn.of_box (k:=0) (ty:=142) (gmulH_fn J p b gN gX gY gS gF hp hp3 0 x y hx hy) rfl (by simp[clL,V.cl,wV,wds_cl]) (by simp)
end
def SDcf:FuncId→List V→CR:=fun f args=>tab [(144,cG fun p _ _ _ _ _ _=>cP fun x=>cP fun y=>cF [(dg p).length≤100,3≤(dg p).length,(dg x).length≤200,(dg y).length≤200] false (pN (x*y%p))),
 (200,cI .i64 fun n=>cF [0≤n,n<9223372036854775808] false (pN n.toNat))] noF f args
def SDc (J:Inv):Sig:=⟨J,sdf,SDcf,noH,0⟩
theorem SDc_ok (J:Inv):SigOk Tryz.prog (SDc J):= .plain (tab_ok (.c (.g fun p b gN gX gY gS gF=> .p fun x=> .p fun y=> .z fun⟨c0,c1,c2,c3,_⟩=>gmul_fn J p b gN gX gY gS gF c0 c1 x y c2 c3)<|
 .c (.i fun n=> .z fun⟨c0,_,_⟩=>(by have h:=newInt_fn J n.toNat (by omega);rwa [show V.i (n.toNat:Int)= .val (.int .i64 n) by unfold V.i;rw[Int.toNat_of_nonneg c0]] at h))<| .n) noF_ok)
def gcl (gN gX gY gS gF:V):Bool:=gN.cl&&(gX.cl&&(gY.cl&&(gS.cl&&gF.cl)))
theorem gtimes_fn (J:Inv) (p b:Nat) (gN gX gY gS gF:V) (hp:(dg p).length≤100) (hp3:3≤(dg p).length) (hg:gcl gN gX gY gS gF=true) (n x:Nat) (hn:n<4294967296) (hx:(dg x).length≤200):Fn Tryz.prog J 146 false [gV p b gN gX gY gS gF, .i n,pN x] (pN (n*x%p)):=by
 unfold gcl at hg
 refine fnI Tryz.func146 rfl (by kernel_rfl) (by simp[V.cl,clL,pN,wV,wds_cl]) (SDc_ok J) ?_
 unfold Tryz.f146
 simp only[↓bD,bQ,reduceEqDiff,reduceAdd,↓reduceIte,reduceCtorEq,cG,SDc,SDcf,gV,pN,hg]
 have l1:(dg n).length≤1:=dg_len (by omega)
 exact⟨by omega,by omega,hp,hp3,by omega,hx⟩
theorem bCmpO_fn (J:Inv) (k nx:Nat) (x y:Nat) (hx:(dg x).length≤100000) (hy:(dg y).length≤100000):FnH Tryz.prog J 149 [pN x, .op k 0] [(k, .box 142 (bI false y))] nx (.i (cmp3 x y)) [(k, .box 142 (bI false y))] nx:=by
 refine fnJ Tryz.func149 rfl (by kernel_rfl) (SBi_ok J nx) rfl ?_
 unfold Tryz.f149
 simp only[↓bD,bQ,reduceEqDiff,reduceLT,reduceAdd,↓reduceIte,reduceCtorEq,SBi,pN,bI]
 refine DrawC.sch [(0,some []),(1,some []),(2,some []),(3,some []),(4,some []),(5,some []),(6,some []),(7,some []),(8,none),(9,some [])] [] (by kernel_rfl) ?_
 simp only[↓bD,bQ,reduceEqDiff,reduceLT,reduceAdd,↓reduceIte,reduceCtorEq,SBsf,SBnf,SBmf]
 refine⟨.of (by omega), .of (by omega), .inl ?_⟩
 simp only[bQ,↓reduceIte]
 exact Nat.le_refl _
def SDdf:FuncId→List V→CR:=fun f args=>tab [(146,cG fun p _ gN gX gY gS gF=>cI .i64 fun n=>cP fun x=>cF [(dg p).length≤100,3≤(dg p).length,gcl gN gX gY gS gF=true,0≤n,n<4294967296,(dg x).length≤200] false (pN (n.toNat*x%p))),
 (149,cP fun x=>cP fun y=>cF [(dg x).length≤100000,(dg y).length≤100000] false (.i (cmp3 x y)))] SDcf f args
def SDd (J:Inv):Sig:=⟨J,sdf,SDdf,noH,0⟩
theorem SDd_ok (J:Inv):SigOk Tryz.prog (SDd J):= .plain (tab_ok (.c (.g fun p b gN gX gY gS gF=> .i fun n=> .p fun x=> .z fun⟨c0,c1,c2,c3,_,c5,_⟩=>(by have h:=gtimes_fn J p b gN gX gY gS gF c0 c1 c2 n.toNat x (by omega) c5;rwa [show V.i (n.toNat:Int)= .val (.int .i64 n) by unfold V.i;rw[Int.toNat_of_nonneg c3]] at h))<|
 .c (.p fun x=> .p fun y=> .z fun⟨c0,c1,_⟩=>bCmp_fn J x y c0 c1)<| .n) (SDc_ok J).1)
def SDeh:FuncId→List V→List (Nat×Ob)→Nat→HR:=fun f args h nx=>tabH [(145,fun _ nx=>hG fun p _ _ _ _ _ _=>hP fun x=>hP fun y=>hD (hF [(dg p).length≤100,3≤(dg p).length,(dg x).length≤200,(dg y).length≤200] [] (.op nx 0) [(nx, .box 142 (bI false (gsub x y p)))] (nx+3))),
 (148,fun h nx=>hO fun k=>hE k (hP fun y=>hD (hX h k fun bx x=>hF [(dg x).length≤100000,(dg y).length≤100000] [(k, .box 142 (bI bx x))] (.op k 0) [(k, .box 142 (bI (sumB bx x false y&&decide (0<(dg (sumN bx x false y)).length)) (sumN bx x false y)))] (nx)))),
 (147,fun h nx=>hG fun p _ _ _ _ _ _=>hO fun k=>hD (hX h k fun bx x=>hF [k<nx,(dg p).length≤100,3≤(dg p).length,(dg x).length≤1000] [(k, .box 142 (bI bx x))] (.op k 0) [(k, .box 142 (bI false (modS bx x p)))] (nx+2))),
 (149,fun h nx=>hP fun x=>hO fun k=>hD (hX h k fun bf y=>hF [bf=false,(dg x).length≤100000,(dg y).length≤100000] [(k, .box 142 (bI bf y))] (.i (cmp3 x y)) [(k, .box 142 (bI false y))] (nx)))] noH f args h nx
theorem SDeh_ok (J:Inv):HTab Tryz.prog J SDeh:=tabH_ok (.c (fun _ nx=> .g fun p b gN gX gY gS gF=> .p fun x=> .p fun y=> .d (.F fun⟨c0,c1,c2,c3,_⟩=>gsubH_fn J p b gN gX gY gS gF c0 c1 nx x y c2 c3))<|
 .c (fun _ nx=> .o fun k=> .e (.p fun y=> .d (.X fun bx x=> .F fun⟨c0,c1,_⟩=>bAddP_fn J k nx bx x y c0 c1)))<|
 .c (fun _ nx=> .g fun p b gN gX gY gS gF=> .o fun k=> .d (.X fun bx x=> .F fun⟨c0,c1,c2,c3,_⟩=>gmod_fn J p b gN gX gY gS gF c1 c2 k nx c0 bx x c3))<|
 .c (fun _ nx=> .p fun x=> .o fun k=> .d (.X fun _ y=> .F fun⟨c0,c1,c2,_⟩=>(by subst c0;exact bCmpO_fn J k nx x y c1 c2)))<| .n) noH_ok
def SDe (J:Inv) (b:Nat):Sig:=⟨J,sdf,SDdf,SDeh,b⟩
theorem SDe_ok (J:Inv) (b:Nat):SigOk Tryz.prog (SDe J b):=⟨(SDd_ok J).1,SDeh_ok J⟩
def crvR (p b x:Nat):Nat:=(gsub (x*(x*x%p)%p) (3*x%p) p+b)%p
def crvOn (p b x y:Nat):Bool:=decide (x<p)&&(decide (y<p)&&(y*y%p==crvR p b x))
theorem modS_lt {b:Bool} {v p:Nat} (h:0<p):modS b v p<p:=by
 unfold modS
 have:=Nat.mod_lt v h
 split<;>omega
theorem gsub_lt {x y p:Nat} (h:0<p):gsub x y p<p:=modS_lt h
theorem cmp3_ltz (a b:Nat):decide (cmp3 a b<0)=decide (a<b):=by
 unfold cmp3
 by_cases h:a<b
 ·rw[if_pos h,decide_eq_true h];rfl
 ·rw[if_neg h,decide_eq_false h];split<;>rfl
theorem on_fn (J:Inv) (p b:Nat) (gN gX gY gS gF:V) (hp:(dg p).length≤100) (hp3:3≤(dg p).length) (hb:(dg b).length≤100) (hg:gcl gN gX gY gS gF=true) (x y:Nat) (hx:(dg x).length≤100) (hy:(dg y).length≤100):Fn Tryz.prog J 95 false [gV p b gN gX gY gS gF,pN x,pN y] (.bb (crvOn p b x y)):=by
 have hg2:=hg
 unfold gcl at hg2
 have s1: ∀a b,sumN false a false b=a+b:=fun a b=>if_pos rfl
 have s2: ∀a b,sumB false a false b=false:=fun a b=>if_pos rfl
 refine fnI Tryz.func95 rfl (by kernel_rfl) rfl (SDe_ok J 0) ?_
 unfold Tryz.f95
 simp only[↓bD,bQ,reduceEqDiff,reduceLT,reduceAdd,↓reduceIte,reduceCtorEq,reduceToNat,cG,hG,SDe,SDdf,SDcf,SDeh,gV,pN,bI,hg,hg2,s1,s2,modS_false]
 have hp0:0<p:=Nat.pos_of_ne_zero fun e=>by rw[e,dg_zero] at hp3;exact absurd hp3 (by simp)
 have hm: ∀v,(dg (v%p)).length≤100:=fun v=>Nat.le_trans (dg_mono (Nat.le_of_lt (Nat.mod_lt v hp0))) hp
 have hs: ∀u v,(dg (gsub u v p)).length≤100:=fun u v=>Nat.le_trans (dg_mono (Nat.le_of_lt (gsub_lt hp0))) hp
 have hm2: ∀v k,100≤k→(dg (v%p)).length≤k:=fun v k h=>Nat.le_trans (hm v) h
 have hs2: ∀u v k,100≤k→(dg (gsub u v p)).length≤k:=fun u v k h=>Nat.le_trans (hs u v) h
 have ht:=dg_sum_len (hs (x*(x*x%p)%p) (3*x%p)) hb
 refine⟨hp,hp3,by omega,by omega,hp,hp3,by omega,hm2 _ _ (by omega),hp,hp3,by omega,by omega,by omega,hp,hp3,hm2 _ _ (by omega),hm2 _ _ (by omega),hs2 _ _ _ (by omega),by omega,hp,hp3,by omega,by omega,by omega,fun _=>by omega,fun _=>by omega,fun _=>hp,fun _=>hp3,fun _=>by omega,fun _=>by omega,fun _=>hm2 _ _ (by omega),fun _=>hm2 _ _ (by omega),?_⟩
 rw[cmp3_ltz,cmp3_ltz,cmp3_zero,Bool.and_assoc]
 rfl
end Go.Proofs.YtfengpdaocgcnaaGreatDoor
