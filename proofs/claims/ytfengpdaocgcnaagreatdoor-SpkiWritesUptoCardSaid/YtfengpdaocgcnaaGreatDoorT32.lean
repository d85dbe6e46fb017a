/- The law on keys: the same key; a key in new memory, with marks; is it still what it was; written over. The law on keys: a lent key is what it was; it is written over. The elements of DER as data. What the functions of DER come to, in plain Lean. The leaves of DER: tags, contents. -/
import Derived.Test.YtfengpdaocgcnaaGreatDoorT31
import Derived.Test.YtfengpdaocgcnaaGreatDoorQ16
namespace Go.Proofs.YtfengpdaocgcnaaGreatDoor
open Nat (reduceMul reduceLeDiff reduceEqDiff reduceLT reduceAdd reduceSub reduceDiv)
open Int (reduceToNat reducePow)
open Go.RowKit
set_option linter.unusedSimpArgs false
set_option maxRecDepth 100000
def LSaf:FuncId→List V→CR:=fun f args=>tab [(13,cY fun a=>cY fun b=>cF [a.length≤140737488355328] false (.bb (a==b)))] noF f args
def LSa (J:Inv):Sig:=⟨J,sdf,LSaf,noH,0⟩
theorem LSa_ok (J:Inv):SigOk Tryz.prog (LSa J):= .plain (tab_ok (.c (.y fun a=> .y fun b=> .z fun⟨c0,_⟩=>sameBytes_fn J a b c0)<| .n) noF_ok)
structure KP where
 s:List UInt8
 n:List UInt8
 e:List UInt8
 x:List UInt8
 y:List UInt8
def KP.V (k:KP) (kty crv:Int):V:=keyV kty crv k.s k.n k.e k.x k.y
structure KP.Ok (k:KP):Prop where
 s:k.s.length≤16777216
 n:k.n.length≤16777216
 e:k.e.length≤16777216
 x:k.x.length≤16777216
 y:k.y.length≤16777216
theorem same_self_fn (J:Inv) (kty crv:Int) (s n e x y:List UInt8) (hs:s.length≤16777216) (hn:n.length≤16777216) (he:e.length≤16777216) (hx:x.length≤16777216) (hy:y.length≤16777216):Fn Tryz.prog J 21 false [keyV kty crv s n e x y,keyV kty crv s n e x y] (.bb true):=by
 refine fnI Tryz.func21 rfl (by kernel_rfl) rfl (LSa_ok J) ?_
 unfold Tryz.f21
 simp only[↓bD,bQ,reduceEqDiff,reduceLT,reduceAdd,↓reduceIte,reduceCtorEq,LSa,LSaf,keyV]
 refine⟨by omega,by omega,by omega,by omega,by omega⟩
def LSch:FuncId→List V→List (Nat×Ob)→Nat→Option CallH:=fun f args h nx=>
 if f=28 then match args with
  |[v]=>match (fz h v).1 with
   | .by l=>some ⟨[l.length≤140737488351232],[true],[], .vw (.r nx) 1 0 l.length,[(nx, .row 5 (.by (l++mk 70)))],nx+1⟩
   |_=>none
  |_=>none
 else none
def LSc (J:Inv) (nx:Nat):Sig:=⟨J,sdf,S0f,LSch,nx⟩
theorem LSc_ok (J:Inv) (nx:Nat):SigOk Tryz.prog (LSc J nx):=by
 constructor
 ·intro f args l fr r h hl
  exact absurd h (by simp[LSc,S0f])
 ·intro f args h nx' c hc hl
  change LSch f args h nx'=some c at hc
  unfold LSch at hc
  split at hc
  ·rename_i hf;subst hf
   split at hc
   ·rename_i v
    split at hc
    ·rename_i l hv
     obtain rfl:=Option.some.inj hc
     show FnH _ _ _ [(fz h v).1] _ _ _ _ _
     rw[hv]
     exact marked_own J l nx' (hl _ (by simp))
    ·exact absurd hc (by simp)
   ·exact absurd hc (by simp)
  ·exact absurd hc (by simp)
def lenV (kty crv:Int) (k s n e x y:Nat):V:= .st [.val (.int .i64 kty), .val (.int .i64 crv), .vw (.r k) 1 0 s, .vw (.r (k+1)) 1 0 n, .vw (.r (k+2)) 1 0 e, .vw (.r (k+3)) 1 0 x, .vw (.r (k+4)) 1 0 y]
def lenH (k:Nat) (s n e x y:List UInt8):List (Nat×Ob):=[(k, .row 5 (.by (s++mk 70))),(k+1, .row 5 (.by (n++mk 70))),(k+2, .row 5 (.by (e++mk 70))),(k+3, .row 5 (.by (x++mk 70))),(k+4, .row 5 (.by (y++mk 70)))]
theorem lent_own (J:Inv) (nx:Nat) (kty crv:Int) (s n e x y:List UInt8) (hs:s.length≤16777216) (hn:n.length≤16777216) (he:e.length≤16777216) (hx:x.length≤16777216) (hy:y.length≤16777216):FnH Tryz.prog J 8 [keyV kty crv s n e x y] [] nx (lenV kty crv nx s.length n.length e.length x.length y.length) (lenH nx s n e x y) (nx+6):=by
 refine fnC Tryz.func8 rfl (by kernel_rfl) (LSc_ok J nx) rfl ?_
 unfold Tryz.f8
 simp only[bQ,reduceAdd,↓reduceIte,LSc,keyV,lenV,lenH]
 refine DrawC.sch [(0,some []),(1,some []),(2,some []),(3,some []),(4,some []),(5,some []),(7,some []),(8,some []),(10,some []),(11,some []),(13,some []),(14,some []),(16,some []),(17,some []),(6,none),(9,none),(12,none),(15,none),(18,none),(19,none),(20,none)] [(20,[0,1,2,3,4,5,6])] (by kernel_rfl) ?_
 simp only[bQ,reduceLeDiff,reduceEqDiff,reduceLT,reduceAdd,↓reduceIte,reduceCtorEq,Nat.reduceBEq,S0f,LSch]
 refine⟨by omega,Nat.le_refl _,by omega,Nat.le_refl _,by omega,Nat.le_refl _,by omega,Nat.le_refl _,by omega,Nat.le_refl _,RenC.intro [(nx,nx+2),(nx+1,nx+3),(nx+2,nx+4),(nx+3,nx+5),(nx+4,nx+6),(nx+5,nx+1)] ⟨[(2, .op (nx+5) 0)],(nx+5, .box 26 (lenV kty crv nx s.length n.length e.length x.length y.length))::lenH nx s n e x y,nx+6⟩ ?_ ?_⟩
 ·have n1: ∀j,(nx+j<nx)=False:=fun j=>by simp
  have n0:(nx<nx)=False:=by simp
  simp only[bQ,reduceEqDiff,↓reduceIte,reduceCtorEq,lenV,lenH,n0,n1]
  simp
 ·simp only[bQ,reduceLeDiff,reduceEqDiff,reduceLT,reduceAdd,↓reduceIte,reduceCtorEq,lenV,lenH]
  exact Nat.le_refl _
def LSdf:FuncId→List V→Option (List Prop×Bool×V):=fun f args=>
 if f=21 then match args with
  |[.st [.val (.int .i64 kty), .val (.int .i64 crv), .by s, .by n, .by e, .by x, .by y], .st [.val (.int .i64 kty'), .val (.int .i64 crv'), .by s', .by n', .by e', .by x', .by y']]=>some ([kty=kty',crv=crv',s=s',n=n',e=e',x=x',y=y',s.length≤16777216,n.length≤16777216,e.length≤16777216,x.length≤16777216,y.length≤16777216],false, .bb true)
  |_=>none
 else none
def LSdh:FuncId→List V→List (Nat×Ob)→Nat→Option CallH:=fun f args h nx=>
 if f=41 then match args with
  |[.vw (.r k) 1 0 n, .by l]=>match Hroot h k with
   |some (.row t (.by m))=>some ⟨[t=5,m=l++mk 70,n=l.length,l.length≤140737488351232],[],[(k, .row 5 (.by m))], .bb true,[(k, .row 5 (.by m))],nx⟩
   |_=>none
  |_=>none
 else none
def LSd (J:Inv) (nx:Nat):Sig:=⟨J,sdf,LSdf,LSdh,nx⟩
theorem LSd_ok (J:Inv) (nx:Nat):SigOk Tryz.prog (LSd J nx):=by
 constructor
 ·intro f args l fr r h hl
  change LSdf f args=some (l,fr,r) at h
  unfold LSdf at h
  split at h
  ·rename_i hf;subst hf
   split at h
   ·obtain⟨rfl,rfl,rfl⟩:=jsome_tri h
    rename_i kty crv s n e x y kty' crv' s' n' e' x' y'
    have q1:kty=kty':=hl _ (by simp)
    have q2:crv=crv':=hl _ (by simp)
    have q3:s=s':=hl _ (by simp)
    have q4:n=n':=hl _ (by simp)
    have q5:e=e':=hl _ (by simp)
    have q6:x=x':=hl _ (by simp)
    have q7:y=y':=hl _ (by simp)
    subst q1 q2 q3 q4 q5 q6 q7
    exact same_self_fn J kty crv s n e x y (hl _ (by simp)) (hl _ (by simp)) (hl _ (by simp)) (hl _ (by simp)) (hl _ (by simp))
   ·exact absurd h (by simp)
  ·exact absurd h (by simp)
 ·intro f args h nx c hc hl
  change LSdh f args h nx=some c at hc
  unfold LSdh at hc
  split at hc
  ·rename_i hf;subst hf
   split at hc
   ·rename_i k n l
    split at hc
    ·rename_i t m hm
     obtain rfl:=Option.some.inj hc
     have h1:m=l++mk 70:=hl _ (by simp)
     have h2:n=l.length:=hl _ (by simp)
     have h4:l.length≤140737488351232:=hl _ (by simp)
     subst h2 h1
     have:=whole_own J l l k nx rfl h4
     rw[beq_self_eq_true] at this
     exact this
    ·exact absurd hc (by simp)
   ·exact absurd hc (by simp)
  ·exact absurd hc (by simp)
theorem still_own (J:Inv) (k nx:Nat) (hk:k+4<nx) (kty crv:Int) (s n e x y:List UInt8) (hs:s.length≤16777216) (hn:n.length≤16777216) (he:e.length≤16777216) (hx:x.length≤16777216) (hy:y.length≤16777216):FnH Tryz.prog J 14 [lenV kty crv k s.length n.length e.length x.length y.length,keyV kty crv s n e x y] (lenH k s n e x y) nx (.bb true) (lenH k s n e x y) nx:=by
 refine fnJ Tryz.func14 rfl (by kernel_rfl) (LSd_ok J nx) rfl ?_
 unfold Tryz.f14
 have eT: ∀l:List UInt8,List.take l.length (l++mk 70)=l:=fun l=>by simp
 have f00:(nx=k)=False:=eq_false (by omega)
 have g00:(k=nx)=False:=eq_false (by omega)
 have f01:(nx=k+1)=False:=eq_false (by omega)
 have g01:(k+1=nx)=False:=eq_false (by omega)
 have f02:(nx=k+2)=False:=eq_false (by omega)
 have g02:(k+2=nx)=False:=eq_false (by omega)
 have f03:(nx=k+3)=False:=eq_false (by omega)
 have g03:(k+3=nx)=False:=eq_false (by omega)
 have f04:(nx=k+4)=False:=eq_false (by omega)
 have g04:(k+4=nx)=False:=eq_false (by omega)
 have f10:(nx+1=k)=False:=eq_false (by omega)
 have g10:(k=nx+1)=False:=eq_false (by omega)
 have f11:(nx+1=k+1)=False:=eq_false (by omega)
 have g11:(k+1=nx+1)=False:=eq_false (by omega)
 have f12:(nx+1=k+2)=False:=eq_false (by omega)
 have g12:(k+2=nx+1)=False:=eq_false (by omega)
 have f13:(nx+1=k+3)=False:=eq_false (by omega)
 have g13:(k+3=nx+1)=False:=eq_false (by omega)
 have f14:(nx+1=k+4)=False:=eq_false (by omega)
 have g14:(k+4=nx+1)=False:=eq_false (by omega)
 have h0:k<nx:=by omega
 have h1:k+1<nx:=by omega
 have h2:k+2<nx:=by omega
 have h3:k+3<nx:=by omega
 simp only[bQ,reduceEqDiff,reduceLT,reduceAdd,↓reduceIte,reduceCtorEq,LSd,LSdf,LSdh,keyV,lenV,lenH,eT,f00,f01,f02,f03,f04,f10,f11,f12,f13,f14]
 refine⟨hs,hn,he,hx,hy,fun _=>by omega,fun _=>by omega,fun _=>by omega,fun _=>by omega,fun _=>by omega,RenC.intro [] ⟨[(4, .bb true)],lenH k s n e x y,nx⟩ ?_ ?_⟩
 ·simp only[bQ,reduceEqDiff,↓reduceIte,reduceCtorEq,lenH,h0,h1,h2,h3,hk,f00,f01,f02,f03,f04,f10,f11,f12,f13,f14]
  exact Nat.le_refl _
 ·simp only[bQ,reduceEqDiff,↓reduceIte,reduceCtorEq,lenH]
  exact Nat.le_refl _
def ovB (l:List UInt8):List UInt8:=if 0<l.length then l.set (l.length/2) (u8 (bt .xor .u8 (byteAt l (l.length/2)) 2)) else l
theorem ovB_len (l:List UInt8):(ovB l).length=l.length:=by unfold ovB;split<;>simp
def ovI (j i:Nat) (l:List UInt8):List UInt8:=if i<j then ovB l else l
def ovH (k j:Nat) (s n e x y:List UInt8):List (Nat×Ob):=[(k, .row 5 (.by (ovI j 0 s++mk 70))),(k+1, .row 5 (.by (ovI j 1 n++mk 70))),(k+2, .row 5 (.by (ovI j 2 e++mk 70))),(k+3, .row 5 (.by (ovI j 3 x++mk 70))),(k+4, .row 5 (.by (ovI j 4 y++mk 70)))]
theorem ov_set {l:List UInt8} (h:0<l.length):(l++mk 70).set (l.length/2) (u8 (bt .xor .u8 (byteAt (l++mk 70) (l.length/2)) 2))=ovB l++mk 70:=by
 have hb:byteAt (l++mk 70) (l.length/2)=byteAt l (l.length/2):=by
  unfold byteAt
  rw[List.getD_eq_getElem?_getD,List.getD_eq_getElem?_getD,List.getElem?_append_left (by omega)]
 unfold ovB
 rw[hb,if_pos h,List.set_append_left _ _ (by omega)]
theorem ovB_nil {l:List UInt8} (h: ¬0<l.length):ovB l=l:=if_neg h
theorem xor8 (l:List UInt8) (i:Nat):0≤bt .xor .u8 (byteAt l i) 2∧bt .xor .u8 (byteAt l i) 2<256:=by
 rw[bt_eq]
 show 0≤IntKind.u8.wrap _∧IntKind.u8.wrap _<256
 rw[show∀n:Int,IntKind.u8.wrap n=n%256 from fun n=>rfl]
 omega
def S0n (J:Inv) (nx:Nat):Sig:=⟨J,sdf,S0f,noH,nx⟩
theorem S0n_ok (J:Inv) (nx:Nat):SigOk Tryz.prog (S0n J nx):= .plain fun _ _ _ _ _ h=>by simp[S0f] at h
theorem over_own (J:Inv) (k nx:Nat) (hk:k+4<nx) (kty crv:Int) (s n e x y:List UInt8) (hs:s.length≤16777216) (hn:n.length≤16777216) (he:e.length≤16777216) (hx:x.length≤16777216) (hy:y.length≤16777216):FnH Tryz.prog J 15 [lenV kty crv k s.length n.length e.length x.length y.length] (lenH k s n e x y) nx (.tu []) (lenH k (ovB s) (ovB n) (ovB e) (ovB x) (ovB y)) nx:=by
 refine fnJ Tryz.func15 rfl (by kernel_rfl) (S0n_ok J nx) rfl ?_
 unfold Tryz.f15
 have eT: ∀l:List UInt8,List.take l.length (l++mk 70)=l:=fun l=>by simp
 have f00:(nx=k)=False:=eq_false (by omega)
 have g00:(k=nx)=False:=eq_false (by omega)
 have f01:(nx=k+1)=False:=eq_false (by omega)
 have g01:(k+1=nx)=False:=eq_false (by omega)
 have f02:(nx=k+2)=False:=eq_false (by omega)
 have g02:(k+2=nx)=False:=eq_false (by omega)
 have f03:(nx=k+3)=False:=eq_false (by omega)
 have g03:(k+3=nx)=False:=eq_false (by omega)
 have f04:(nx=k+4)=False:=eq_false (by omega)
 have g04:(k+4=nx)=False:=eq_false (by omega)
 have f10:(nx+1=k)=False:=eq_false (by omega)
 have g10:(k=nx+1)=False:=eq_false (by omega)
 have f11:(nx+1=k+1)=False:=eq_false (by omega)
 have g11:(k+1=nx+1)=False:=eq_false (by omega)
 have f12:(nx+1=k+2)=False:=eq_false (by omega)
 have g12:(k+2=nx+1)=False:=eq_false (by omega)
 have f13:(nx+1=k+3)=False:=eq_false (by omega)
 have g13:(k+3=nx+1)=False:=eq_false (by omega)
 have f14:(nx+1=k+4)=False:=eq_false (by omega)
 have g14:(k+4=nx+1)=False:=eq_false (by omega)
 have h0:k<nx:=by omega
 have h1:k+1<nx:=by omega
 have h2:k+2<nx:=by omega
 have h3:k+3<nx:=by omega
 have eH: ∀l:List UInt8,((l.length:Int)/2).toNat=l.length/2:=fun l=>by omega
 simp only[bQ,reduceMul,reduceLeDiff,reduceEqDiff,reduceLT,reduceAdd,↓reduceIte,S0n,lenV,lenH]
 refine LoopC.intro (α:=Nat) (fun i=>i≤5) (fun i=>⟨[(2, .op (nx+1) 0),(3, .i i)],(nx+1, .box 70 (.st [.vw (.r k) 1 0 s.length, .vw (.r (k+1)) 1 0 n.length, .vw (.r (k+2)) 1 0 e.length, .vw (.r (k+3)) 1 0 x.length, .vw (.r (k+4)) 1 0 y.length]))::ovH k i s n e x y,nx+2⟩) (fun i=>5-i) 0 (Nat.zero_le _) ?_ ?_
 ·simp only[bQ,reduceLeDiff,reduceEqDiff,↓reduceIte,reduceCtorEq,ovH,ovI,Nat.not_lt_zero,f00,f01,f02,f03,f04,f10,f11,f12,f13,f14]
  exact⟨rfl,Nat.le_refl _⟩
 ·intro i hi
  have hi:i=0∨i=1∨i=2∨i=3∨i=4∨i=5:=by omega
  have q0:((0:Nat):Int)=0:=rfl
  have q1:((1:Nat):Int)=1:=rfl
  have q2:((2:Nat):Int)=2:=rfl
  have q3:((3:Nat):Int)=3:=rfl
  have q4:((4:Nat):Int)=4:=rfl
  have q5:((5:Nat):Int)=5:=rfl
  rcases hi with rfl|rfl|rfl|rfl|rfl|rfl
  ·simp only[bQ,reduceEqDiff,reduceLT,reduceAdd,↓reduceIte,reduceToNat,ovH,ovI,Nat.reduceLT,q0,q5]
   refine⟨fun _=>⟨by omega,by omega,fun h=> ?_,fun h=> ?_⟩,fun h=>absurd h (by simp)⟩
   ·have hp:0<s.length:=by have h:=of_decide_eq_true h;omega
    refine DrawC.rows [(0,some (true,[])),(1,some (true,[])),(2,some (true,[])),(3,some (true,[])),(4,some (true,[])),(5,some (true,[])),(6,some (true,[])),(7,some (true,[])),(8,some (true,[])),(9,some (true,[])),(10,some (true,[])),(11,some (true,[])),(12,some (true,[])),(13,some (true,[])),(14,some (true,[])),(15,some (true,[])),(16,some (true,[])),(17,some (true,[])),(18,some (true,[])),(19,some (true,[])),(20,none)] [] [20] (by kernel_rfl) ?_
    simp only[bQ,reduceEqDiff,reduceLT,reduceAdd,↓reduceIte,reduceToNat,Nat.reduceLT,q5,eH,ov_set hp,f10]
    have hx8:=xor8 (s++mk 70) (s.length/2)
    have hl8:s.length/2<(s++mk 70).length:=by rw[List.length_append];omega
    repeat (with_reducible refine And.intro ?_ ?_; · first|omega|(constructor<;>omega))
    refine Again.intro 1 (by omega) (by omega) ?_
    simp only[bQ,reduceLeDiff,reduceEqDiff,reduceLT,↓reduceIte,reduceCtorEq,Nat.reduceLT,q1,g10,f11,f12,f13,f14]
    exact⟨rfl,Nat.le_refl _⟩
   ·have hp: ¬0<s.length:=by have h:=of_decide_eq_false h;omega
    refine⟨by constructor<;>omega,Again.intro 1 (by omega) (by omega) ?_⟩
    simp only[bQ,reduceLeDiff,reduceEqDiff,reduceLT,↓reduceIte,reduceCtorEq,Nat.reduceLT,q1,ovB_nil hp,f10,f11,f12,f13,f14]
    exact⟨rfl,Nat.le_refl _⟩
  ·simp only[bQ,reduceEqDiff,reduceLT,reduceAdd,↓reduceIte,reduceToNat,ovH,ovI,Nat.reduceLT,q1,q5]
   refine⟨fun _=>⟨by omega,by omega,fun h=> ?_,fun h=> ?_⟩,fun h=>absurd h (by simp)⟩
   ·have hp:0<n.length:=by have h:=of_decide_eq_true h;omega
    refine DrawC.rows [(0,some (true,[])),(1,some (true,[])),(2,some (true,[])),(3,some (true,[])),(4,some (true,[])),(5,some (true,[])),(6,some (true,[])),(7,some (true,[])),(8,some (true,[])),(9,some (true,[])),(10,some (true,[])),(11,some (true,[])),(12,some (true,[])),(13,some (true,[])),(14,some (true,[])),(15,some (true,[])),(16,some (true,[])),(17,some (true,[])),(18,some (true,[])),(19,some (true,[])),(20,none)] [] [20] (by kernel_rfl) ?_
    simp only[bQ,reduceEqDiff,reduceLT,reduceAdd,↓reduceIte,reduceCtorEq,reduceToNat,Nat.reduceLT,q5,eH,ov_set hp,f11]
    have hx8:=xor8 (n++mk 70) (n.length/2)
    have hl8:n.length/2<(n++mk 70).length:=by rw[List.length_append];omega
    repeat (with_reducible refine And.intro ?_ ?_; · first|omega|(constructor<;>omega))
    refine Again.intro 2 (by omega) (by omega) ?_
    simp only[bQ,reduceLeDiff,reduceEqDiff,reduceLT,↓reduceIte,reduceCtorEq,Nat.reduceLT,q2,f10,g11,f12,f13,f14]
    exact⟨rfl,Nat.le_refl _⟩
   ·have hp: ¬0<n.length:=by have h:=of_decide_eq_false h;omega
    refine⟨by constructor<;>omega,Again.intro 2 (by omega) (by omega) ?_⟩
    simp only[bQ,reduceLeDiff,reduceEqDiff,reduceLT,↓reduceIte,reduceCtorEq,Nat.reduceLT,q2,ovB_nil hp,f10,f11,f12,f13,f14]
    exact⟨rfl,Nat.le_refl _⟩
  ·simp only[bQ,reduceEqDiff,reduceLT,reduceAdd,↓reduceIte,reduceToNat,ovH,ovI,Nat.reduceLT,q2,q5]
   refine⟨fun _=>⟨by omega,by omega,fun h=> ?_,fun h=> ?_⟩,fun h=>absurd h (by simp)⟩
   ·have hp:0<e.length:=by have h:=of_decide_eq_true h;omega
    refine DrawC.rows [(0,some (true,[])),(1,some (true,[])),(2,some (true,[])),(3,some (true,[])),(4,some (true,[])),(5,some (true,[])),(6,some (true,[])),(7,some (true,[])),(8,some (true,[])),(9,some (true,[])),(10,some (true,[])),(11,some (true,[])),(12,some (true,[])),(13,some (true,[])),(14,some (true,[])),(15,some (true,[])),(16,some (true,[])),(17,some (true,[])),(18,some (true,[])),(19,some (true,[])),(20,none)] [] [20] (by kernel_rfl) ?_
    simp only[bQ,reduceEqDiff,reduceLT,reduceAdd,↓reduceIte,reduceCtorEq,reduceToNat,Nat.reduceLT,q5,eH,ov_set hp,f12]
    have hx8:=xor8 (e++mk 70) (e.length/2)
    have hl8:e.length/2<(e++mk 70).length:=by rw[List.length_append];omega
    repeat (with_reducible refine And.intro ?_ ?_; · first|omega|(constructor<;>omega))
    refine Again.intro 3 (by omega) (by omega) ?_
    simp only[bQ,reduceLeDiff,reduceEqDiff,reduceLT,↓reduceIte,reduceCtorEq,Nat.reduceLT,q3,f10,f11,g12,f13,f14]
    exact⟨rfl,Nat.le_refl _⟩
   ·have hp: ¬0<e.length:=by have h:=of_decide_eq_false h;omega
    refine⟨by constructor<;>omega,Again.intro 3 (by omega) (by omega) ?_⟩
    simp only[bQ,reduceLeDiff,reduceEqDiff,reduceLT,↓reduceIte,reduceCtorEq,Nat.reduceLT,q3,ovB_nil hp,f10,f11,f12,f13,f14]
    exact⟨rfl,Nat.le_refl _⟩
  ·simp only[bQ,reduceEqDiff,reduceLT,reduceAdd,↓reduceIte,reduceToNat,ovH,ovI,Nat.reduceLT,q3,q5]
   refine⟨fun _=>⟨by omega,by omega,fun h=> ?_,fun h=> ?_⟩,fun h=>absurd h (by simp)⟩
   ·have hp:0<x.length:=by have h:=of_decide_eq_true h;omega
    refine DrawC.rows [(0,some (true,[])),(1,some (true,[])),(2,some (true,[])),(3,some (true,[])),(4,some (true,[])),(5,some (true,[])),(6,some (true,[])),(7,some (true,[])),(8,some (true,[])),(9,some (true,[])),(10,some (true,[])),(11,some (true,[])),(12,some (true,[])),(13,some (true,[])),(14,some (true,[])),(15,some (true,[])),(16,some (true,[])),(17,some (true,[])),(18,some (true,[])),(19,some (true,[])),(20,none)] [] [20] (by kernel_rfl) ?_
    simp only[bQ,reduceEqDiff,reduceLT,reduceAdd,↓reduceIte,reduceCtorEq,reduceToNat,Nat.reduceLT,q5,eH,ov_set hp,f13]
    have hx8:=xor8 (x++mk 70) (x.length/2)
    have hl8:x.length/2<(x++mk 70).length:=by rw[List.length_append];omega
    repeat (with_reducible refine And.intro ?_ ?_; · first|omega|(constructor<;>omega))
    refine Again.intro 4 (by omega) (by omega) ?_
    simp only[bQ,reduceLeDiff,reduceEqDiff,reduceLT,↓reduceIte,reduceCtorEq,Nat.reduceLT,q4,f10,f11,f12,g13,f14]
    exact⟨rfl,Nat.le_refl _⟩
   ·have hp: ¬0<x.length:=by have h:=of_decide_eq_false h;omega
    refine⟨by constructor<;>omega,Again.intro 4 (by omega) (by omega) ?_⟩
    simp only[bQ,reduceLeDiff,reduceEqDiff,reduceLT,↓reduceIte,reduceCtorEq,Nat.reduceLT,q4,ovB_nil hp,f10,f11,f12,f13,f14]
    exact⟨rfl,Nat.le_refl _⟩
  ·simp only[bQ,reduceEqDiff,reduceLT,reduceAdd,↓reduceIte,reduceToNat,ovH,ovI,Nat.reduceLT,q4,q5]
   refine⟨fun _=>⟨by omega,by omega,fun h=> ?_,fun h=> ?_⟩,fun h=>absurd h (by simp)⟩
   ·have hp:0<y.length:=by have h:=of_decide_eq_true h;omega
    refine DrawC.rows [(0,some (true,[])),(1,some (true,[])),(2,some (true,[])),(3,some (true,[])),(4,some (true,[])),(5,some (true,[])),(6,some (true,[])),(7,some (true,[])),(8,some (true,[])),(9,some (true,[])),(10,some (true,[])),(11,some (true,[])),(12,some (true,[])),(13,some (true,[])),(14,some (true,[])),(15,some (true,[])),(16,some (true,[])),(17,some (true,[])),(18,some (true,[])),(19,some (true,[])),(20,none)] [] [20] (by kernel_rfl) ?_
    simp only[bQ,reduceEqDiff,reduceLT,reduceAdd,↓reduceIte,reduceCtorEq,reduceToNat,Nat.reduceLT,q5,eH,ov_set hp,f14]
    have hx8:=xor8 (y++mk 70) (y.length/2)
    have hl8:y.length/2<(y++mk 70).length:=by rw[List.length_append];omega
    repeat (with_reducible refine And.intro ?_ ?_; · first|omega|(constructor<;>omega))
    refine Again.intro 5 (by omega) (by omega) ?_
    simp only[bQ,reduceLeDiff,reduceEqDiff,reduceLT,↓reduceIte,reduceCtorEq,Nat.reduceLT,q5,f10,f11,f12,f13,g14]
    exact⟨rfl,Nat.le_refl _⟩
   ·have hp: ¬0<y.length:=by have h:=of_decide_eq_false h;omega
    refine⟨by constructor<;>omega,Again.intro 5 (by omega) (by omega) ?_⟩
    simp only[bQ,reduceLeDiff,reduceEqDiff,reduceLT,↓reduceIte,reduceCtorEq,Nat.reduceLT,q5,ovB_nil hp,f10,f11,f12,f13,f14]
    exact⟨rfl,Nat.le_refl _⟩
  ·simp only[bQ,reduceEqDiff,reduceLT,reduceAdd,↓reduceIte,reduceToNat,ovH,ovI,Nat.reduceLT,q5]
   refine⟨fun h=>absurd h (by simp),fun _=> ?_⟩
   refine RenC.intro [] ⟨[],lenH k (ovB s) (ovB n) (ovB e) (ovB x) (ovB y),nx⟩ ?_ ?_
   ·simp only[bQ,reduceEqDiff,↓reduceIte,reduceCtorEq,lenH,h0,h1,h2,h3,hk,f10,f11,f12,f13,f14]
    exact Nat.le_refl _
   ·simp only[bQ,reduceLeDiff,reduceEqDiff,↓reduceIte,reduceCtorEq,lenH]
    exact Nat.le_refl _
structure Tlv where
 tag:Int
 data:List UInt8
 kids:Int
instance:Inhabited Tlv:=⟨⟨0,[],0⟩⟩
def tlvV (t:Tlv):V:= .st [.val (.int .i64 t.tag), .by t.data, .val (.int .i64 t.kids)]
def tlvD:V:= .st [.val (.int .i64 0), .by [], .val (.int .i64 0)]
def tlvO (t:Tlv):V:= .st [.val (.int .i64 t.tag), .own 5 (.by t.data) none, .val (.int .i64 t.kids)]
def tlvOD:V:= .st [.val (.int .i64 0), .own 5 (.by []) none, .val (.int .i64 0)]
def tls (ts:List Tlv):List V:=ts.map tlvV
def tlo (ts:List Tlv):List V:=ts.map tlvO
def tlsV (ts:List Tlv):V:= .sq 3 tlvD (tls ts)
def tloV (ts:List Tlv):V:= .sq 3 tlvOD (tlo ts)
section
variable (ts us:List Tlv) (i:Nat) (a k:Int) (d:List UInt8)
theorem tls_len:(tls ts).length=ts.length:=by simp[tls]
theorem tls_get:(tls ts).getD i (.st [.val (.int .i64 0), .by [], .val (.int .i64 0)])= .st [.val (.int .i64 (ts.getD i default).tag), .by (ts.getD i default).data, .val (.int .i64 (ts.getD i default).kids)]:=by
 simp only[tls,List.getD_eq_getElem?_getD,List.getElem?_map];cases ts[i]?<;>rfl
theorem tls_app:tls ts++[.st [.val (.int .i64 a), .by d, .val (.int .i64 k)]]=tls (ts++[⟨a,d,k⟩]):=by simp[tls,tlvV]
theorem tls_apps:tls ts++tls us=tls (ts++us):=by simp[tls]
theorem tls_set:(tls ts).set i (.st [.val (.int .i64 a), .by d, .val (.int .i64 k)])=tls (ts.set i ⟨a,d,k⟩):=by simp[tls,List.map_set,tlvV]
theorem tls_take:(tls ts).take i=tls (ts.take i):=by simp[tls,List.map_take]
theorem tls_drop:(tls ts).drop i=tls (ts.drop i):=by simp[tls,List.map_drop]
theorem tls_er:(tls ts).map er2=tls ts:=by simp[tls,er2,er1,tlvV]
theorem tls_cl:clL (tls ts)=true:=by simp[clL_all,tls,V.cl,tlvV,clL]
theorem tls_ct:(tls ts).all ct2=true:=by simp[tls,ct2,ct1,V.cl,tlvV]
theorem tlo_len:(tlo ts).length=ts.length:=by simp[tlo]
theorem tlo_get:(tlo ts).getD i (.st [.val (.int .i64 0), .own 5 (.by []) none, .val (.int .i64 0)])= .st [.val (.int .i64 (ts.getD i default).tag), .own 5 (.by (ts.getD i default).data) none, .val (.int .i64 (ts.getD i default).kids)]:=by
 simp only[tlo,List.getD_eq_getElem?_getD,List.getElem?_map];cases ts[i]?<;>rfl
theorem tlo_app:tlo ts++[.st [.val (.int .i64 a), .own 5 (.by d) none, .val (.int .i64 k)]]=tlo (ts++[⟨a,d,k⟩]):=by simp[tlo,tlvO]
theorem tlo_apps:tlo ts++tlo us=tlo (ts++us):=by simp[tlo]
theorem tlo_set:(tlo ts).set i (.st [.val (.int .i64 a), .own 5 (.by d) none, .val (.int .i64 k)])=tlo (ts.set i ⟨a,d,k⟩):=by simp[tlo,List.map_set,tlvO]
theorem tlo_er:(tlo ts).map er2=tls ts:=by simp[tls,tlo,er2,er1,tlvV,tlvO]
theorem tlo_sc:scL (tlo ts)=true:=by simp[scL_all,tlo,V.sc,tlvO,scL]
theorem tlo_ct:(tlo ts).all ct2=true:=by simp[tlo,ct2,ct1,V.cl,tlvO]
end
def df (t:TypeId):V:=if t=3 then .val (.int .i64 0) else if t=47 then tlvD else .any
def G0f:FuncId→List V→Option (List Prop×Bool×V):=fun _ _=>none
def G0 (J:Inv):Sig:=⟨J,df,G0f,noH,0⟩
theorem G0_ok (J:Inv):SigOk Tryz.prog (G0 J):= .plain fun _ _ _ _ _ h=>by simp[G0f] at h
def unTlv:V→Tlv
 | .st [.val (.int .i64 a), .own _ (.by d) _, .val (.int .i64 k)]=>⟨a,d,k⟩
 | .st [.val (.int .i64 a), .by d, .val (.int .i64 k)]=>⟨a,d,k⟩
 |_=>default
def unT (l:List V):List Tlv:=l.map unTlv
theorem unT_tlo (ts:List Tlv):unT (tlo ts)=ts:=by
 induction ts with
 |nil=>rfl
 |cons t r ih=>simp only[unT,tlo,List.map_cons] at ih⊢;rw[ih];rfl
theorem unT_tls (ts:List Tlv):unT (tls ts)=ts:=by
 induction ts with
 |nil=>rfl
 |cons t r ih=>simp only[unT,tls,List.map_cons] at ih⊢;rw[ih];rfl
def Small (ts:List Tlv):Prop:=ts.length≤3518437208883∧ ∀t∈ts,t.data.length≤140737488355328
theorem Small.at {ts:List Tlv} (h:Small ts) {i:Nat} (hi:i<ts.length):(ts.getD i default).data.length≤140737488355328:=by
 rw[List.getD_eq_getElem?_getD,List.getElem?_eq_getElem hi]
 exact h.2 _ (List.getElem_mem hi)
theorem getD_at {ts:List Tlv} {a:Nat} (h:a<ts.length):ts.getD a default=ts[a]:=by
 rw[List.getD_eq_getElem?_getD,List.getElem?_eq_getElem h];rfl
def Tiny (ts:List Tlv):Prop:=ts.length≤1048576∧ ∀t∈ts,t.data.length≤1048576
theorem Tiny.small {ts:List Tlv} (h:Tiny ts):Small ts:=⟨by have:=h.1;omega,fun t ht=>by have:=h.2 t ht;omega⟩
theorem Tiny.at {ts:List Tlv} (h:Tiny ts) {i:Nat} (hi:i<ts.length):(ts.getD i default).data.length≤1048576:=by
 rw[getD_at hi];exact h.2 _ (List.getElem_mem hi)
theorem bnB:type_of%((aI (aI (aI (aI @tls_len @tls_get) (aI @tls_app (aI @tls_apps @tls_set))) (aI (aI @tls_take @tls_drop) (aI @tls_er (aI @tls_cl @tls_ct)))) (aI (aI (aI @tlo_len @tlo_get) (aI @tlo_app (aI @tlo_apps @tlo_set))) (aI (aI @tlo_er @tlo_sc) (aI @tlo_ct (aI @unT_tls @unT_tlo)))))):=(aI (aI (aI (aI @tls_len @tls_get) (aI @tls_app (aI @tls_apps @tls_set))) (aI (aI @tls_take @tls_drop) (aI @tls_er (aI @tls_cl @tls_ct)))) (aI (aI (aI @tlo_len @tlo_get) (aI @tlo_app (aI @tlo_apps @tlo_set))) (aI (aI @tlo_er @tlo_sc) (aI @tlo_ct (aI @unT_tls @unT_tlo)))))
def tagF (t:Int):Bool:=decide (0≤t)&&decide (t≤255)&& !(t%32==31)&& !(t==16)&& !(t==17)&& !(t==33)&& !(t==34)&& !(t==35)&& !(t==37)&& !(t==38)
def innerF (t:Int):Bool:=t/32%2==1
def beginsAt:List UInt8→Nat→Bool
 |_,0=>true
 |l,k+1=>decide (byteAt l k<128)
def groupsTo (l:List UInt8) (n:Nat):Bool:=(List.range n).all fun k=> !(beginsAt l k&&(byteAt l k==128))
def groupsF (l:List UInt8):Bool:=decide (0<l.length)&&beginsAt l l.length&&groupsTo l l.length
def rightF (t:Int) (l:List UInt8):Bool:=
 if t=1 then (l.length:Int)==1&&(byteAt l 0==0||byteAt l 0==255)
 else if t=2 then (l.length:Int)==1||(decide (1<(l.length:Int))&& !(byteAt l 0==0&&decide (byteAt l 1<128))&& !(byteAt l 0==255&&decide (128≤byteAt l 1)))
 else if t=3 then (l.length:Int)==1&&byteAt l 0==0||decide (1<(l.length:Int))&&decide (byteAt l 0<8)&&(byteAt l (l.length-1)%2^(byteAt l 0).toNat==0)
 else if t=5 then (l.length:Int)==0
 else if t=6 then groupsF l
 else true
def byteN (l:List UInt8) (i:Nat):Nat:=(l.getD i 0).toNat
theorem byteAt_N (l:List UInt8) (i:Nat):byteAt l i=(byteN l i:Int):=rfl
def beV (l:List UInt8):Nat→Nat
 |0=>0
 |k+1=>beV l k*256+byteN l k
def headF (l:List UInt8) (p q:Nat):Nat×Nat×Bool:=
 if q<p+2 then (0,0,false)
 else if byteN l (p+1)<128 then (p+2,p+2+byteN l (p+1),decide (p+2+byteN l (p+1)≤q))
 else if byteN l (p+1)=128∨132<byteN l (p+1)∨q<p+2+(byteN l (p+1)-128)∨byteN l (p+2)=0∨(byteN l (p+1)=129∧byteN l (p+2)<128) then (0,0,false)
 else (p+2+(byteN l (p+1)-128),p+2+(byteN l (p+1)-128)+beV (l.drop (p+2)) (byteN l (p+1)-128),decide (p+2+(byteN l (p+1)-128)+beV (l.drop (p+2)) (byteN l (p+1)-128)≤q))
set_option maxRecDepth 100000
theorem ofInt_i64 (a:Nat) (ha:a<9223372036854775808):(BitVec.ofInt 64 (a:Int)).toNat=a:=by
 rw[BitVec.ofInt_natCast,BitVec.toNat_ofNat];exact Nat.mod_eq_of_lt (by omega)
theorem i64_and_nat (a b:Nat) (ha:a<9223372036854775808) (hb:b<9223372036854775808):bt .and .i64 (a:Int) (b:Int)=((a&&&b:Nat):Int):=by
 have hx:a&&&b<2^63:=Nat.and_lt_two_pow _ (by omega)
 rw[bt_eq]
 show IntKind.i64.wrap ((BitVec.ofInt 64 (a:Int)&&&BitVec.ofInt 64 (b:Int)).toNat:Int)=_
 rw[BitVec.toNat_and,ofInt_i64 a ha,ofInt_i64 b hb,IntKind.wrap_i64]
 omega
theorem and31 (t:Int) (h0:0≤t) (h1:t≤255):bt .and .i64 t 31=t%32:=by
 obtain⟨a,rfl⟩:=Int.eq_ofNat_of_zero_le h0
 have h:=i64_and_nat a 31 (by omega) (by omega)
 rw[show((31:Nat):Int)=31 from rfl] at h
 rw[h,show(31:Nat)=2^5-1 from rfl,Nat.and_two_pow_sub_one_eq_mod]
 omega
theorem tagF_no (t:Int) (h:t<0∨255<t):tagF t=false:=by
 unfold tagF
 rcases h with h|h
 ·rw[show decide (0≤t)=false from by simp;omega];simp
 ·rw[show decide (t≤255)=false from by simp;omega];simp
theorem tagged_fn (J:Inv) (t:Int):Fn Tryz.prog J 86 false [.i t] (.bb (tagF t)):=by
 refine fnI Tryz.func86 rfl (by kernel_rfl) rfl (G0_ok J) ?_
 unfold Tryz.f86
 simp only[bnA,reduceEqDiff,↓reduceIte,reduceCtorEq,G0]
 by_cases h:t<0∨255<t
 ·rw[tagF_no t h]
  rcases h with h|h<;>simp[Br,h]
 ·rw[and31 t (by omega) (by omega)]
  simp[Br,tagF]
  omega
theorem groupsTo_succ (l:List UInt8) (k:Nat):groupsTo l (k+1)=(groupsTo l k&& !(beginsAt l k&&(byteAt l k==128))):=by
 simp[groupsTo,List.range_succ]
theorem groupsTo_no (l:List UInt8) (k n:Nat) (hk:k<n) (h:(beginsAt l k&&(byteAt l k==128))=true):groupsTo l n=false:=by
 simp only[groupsTo,List.all_eq_false]
 exact⟨k,by simpa using hk,by simpa using h⟩
theorem groups_fn (J:Inv) (l:List UInt8) (hm:l.length≤140737488355328):Fn Tryz.prog J 87 false [.by l] (.bb (groupsF l)):=by
 refine fnI Tryz.func87 rfl (by kernel_rfl) rfl (G0_ok J) ?_
 unfold Tryz.f87
 simp only[bnA,↓reduceIte,reduceCtorEq,G0]
 refine LoopC.intro (fun k=>k≤l.length∧groupsTo l k=true) (fun k=>⟨[(8, .i k),(7, .i l.length),(6, .by l),(3, .bb (beginsAt l k)),(0, .by l)],[],0⟩) (fun k=>l.length-k) 0 ⟨Nat.zero_le _,rfl⟩ ?_ ?_
 ·simp only[bnA,reduceLeDiff,reduceEqDiff,↓reduceIte,reduceCtorEq]
  simp[beginsAt]
 ·rintro k ⟨hk,hg⟩
  simp only[bnA,reduceEqDiff,reduceLT,↓reduceIte,reduceCtorEq]
  refine⟨fun hlt=> ?_,fun hge=> ?_⟩
  ·have hlt:k<l.length:=by simpa using hlt
   refine⟨by omega,by omega,fun hb=> ?_,fun hb=> ?_⟩
   ·rw[groupsF,groupsTo_no l k _ hlt hb];simp
   ·refine⟨by (constructor<;>omega),Again.intro (k+1) ⟨by omega,by rw[groupsTo_succ,hg,hb];rfl⟩ (by omega) ?_⟩
    simp only[bnA,reduceLeDiff,reduceEqDiff,↓reduceIte,reduceCtorEq,beginsAt]
    omega
  ·have hge:k=l.length:=by simp at hge;omega
   subst hge
   rw[groupsF,hg]
   simp
end Go.Proofs.YtfengpdaocgcnaaGreatDoor
