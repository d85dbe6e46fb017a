/- Printing: the walk. The program's elements of keys: names, numbers, the element of an algorithm and a key's bytes. The element of an algorithm and a key's bytes. Reading: the walk. DER there and back. Plain Lean. -/
import Derived.Test.YtfengpdaocgcnaaGreatDoorT35
import Derived.Test.YtfengpdaocgcnaaGreatDoorT34
import Derived.Test.YtfengpdaocgcnaaGreatDoorT18
import Derived.Test.YtfengpdaocgcnaaGreatDoorQ15
import Derived.Test.YtfengpdaocgcnaaGreatDoorQ17
namespace Go.Proofs.YtfengpdaocgcnaaGreatDoor
open Nat (reduceMul reduceLeDiff reduceEqDiff reduceLT reduceAdd reduceSub reduceDiv)
open Int (reduceToNat reducePow)
open Go.RowKit
set_option linter.unusedSimpArgs false
set_option maxRecDepth 100000
def G5f (L:Nat→List UInt8):FuncId→List V→Option (List Prop×Bool×V):=fun f args=>
 if f=59 then match args with
  |[.sq sz dd L]=>some ([dd=tlvD,sz=3,L=tls (unT L),Small (unT L)],false, .bb (shapedF (unT L)))
  |_=>none
 else if f=60 then match args with
  |[.val (.int .i64 n)]=>some ([0≤n,n<9223372036854775808],false, .by (L n.toNat))
  |_=>none
 else none
def G5 (J:Inv) (L:Nat→List UInt8):Sig:=⟨J,df,G5f L,noH,0⟩
theorem G5_ok (J:Inv) (L:Nat→List UInt8) (hL:L=lenF):SigOk Tryz.prog (G5 J L):=by
 subst hL
 refine .plain fun f args l fr r h hl=> ?_
 unfold G5f at h
 split at h
 ·rename_i hf;subst hf
  split at h
  ·rename_i sz dd L
   obtain⟨rfl,rfl,rfl⟩:=some_tri h
   have h1:dd=tlvD:=hl _ (by simp)
   have h2:sz=3:=hl _ (by simp)
   have h3:L=tls (unT L):=hl _ (by simp)
   have h4:Small (unT L):=hl _ (by simp)
   subst h1 h2
   have:=shaped_fn J (unT L) h4
   rw[tlsV,←h3] at this
   exact this
  ·exact absurd h (by simp)
 ·split at h
  ·rename_i hf;subst hf
   split at h
   ·rename_i n
    obtain⟨rfl,rfl,rfl⟩:=some_tri h
    have h1:0≤n:=hl _ (by simp)
    have h2:n<9223372036854775808:=hl _ (by simp)
    obtain⟨n,rfl⟩:=Int.eq_ofNat_of_zero_le h1
    exact dlength_fn J n (by omega)
   ·exact absurd h (by simp)
  ·exact absurd h (by simp)
def dtab (f:Nat→Nat) (m c:Nat):List Int:=(List.range m).map fun x=>if c≤x then (f x:Int) else 0
theorem tab_len (f:Nat→Nat) (m c:Nat):(dtab f m c).length=m:=by simp[dtab]
theorem tab_all (f:Nat→Nat) (m:Nat):List.replicate m (0:Int)=dtab f m m:=by
 apply List.ext_getElem
 ·simp[dtab]
 ·intro i h1 h2
  simp only[List.length_replicate] at h1
  simp[dtab];omega
theorem tab_set (f:Nat→Nat) (m c:Nat):(dtab f m (c+1)).set c (f c:Int)=dtab f m c:=by
 apply List.ext_getElem
 ·simp[dtab]
 ·intro i h1 h2
  rw[List.getElem_set]
  simp only[dtab,List.getElem_map,List.getElem_range]
  split
  ·rename_i he;subst he;simp
  ·split<;>split<;>first|rfl|omega
theorem tab_get (f:Nat→Nat) {m c x:Nat} (h:c≤x) (hx:x<m):(dtab f m c).getD x 0=(f x:Int):=by
 rw[List.getD_eq_getElem?_getD,List.getElem?_eq_getElem (by simp[dtab];exact hx)]
 simp[dtab,h]
theorem lenF_len (n:Nat) (h:n<9223372036854775808):(lenF n).length≤9:=by
 unfold lenF
 split
 ·simp
 ·have:=beF_len n 8 (by omega)
  simp;omega
theorem print_walk (J:Inv) (ts:List Tlv) (hs:Small ts) (f:Nat→Option Nat) (sz nx ins:Nat→Nat) (out:List UInt8) (code:Int)
  (hno:shapedF ts=false→out=[]∧code=80)
  (hf: ∀a b,f a=some b→a<b∧b≤ts.length∧nx a=b)
  (hst:shapedF ts=true→ ∀x,x<ts.length→0≤(ts.getD x default).kids∧tagF (tagT ts x)=true∧stK f (kidT ts x) (x+1)=some (nx x)∧ins x=(datT ts x).length+kdN nx sz (kidT ts x) (x+1))
  (hsz: ∀x,sz x=szOf (ins x)) (hbig:shapedF ts=true→(∃x,x<ts.length∧65536<sz x)→out=[]∧code=10)
  (hout:shapedF ts=true→(∀x,x<ts.length→sz x≤65536)→out=fl ts ins 0 ts.length∧code=0∧out.length≤65536):
  FnH Tryz.prog J 30 [tlsV ts] [] 0 (.tu [.by out, .i code]) [] 3:=by
 have hs1:=hs.1
 obtain⟨L,hL⟩: ∃L,L=lenF:=⟨_,rfl⟩
 refine fnJ Tryz.func30 rfl (by kernel_rfl) (G5_ok J L hL) rfl ?_
 unfold Tryz.f30
 simp only[bnA,reduceAdd,↓reduceIte,reduceCtorEq,tlsV,tlvD,bnB,G5,G5f]
 refine⟨hs,fun h0=> ?_,fun h0=> ?_⟩
 ·have hx:shapedF ts=false:=by simpa using h0
  obtain⟨rfl,rfl⟩:=hno hx
  refine .inl ?_
  simp only[bnA,reduceLeDiff,reduceEqDiff,reduceAdd,↓reduceIte]
 ·have h1:shapedF ts=true:=by simpa using h0
  have p3:=hst h1
  have p2:0<ts.length:=by unfold shapedF at h1;simp only[Bool.and_eq_true,decide_eq_true_eq] at h1;exact h1.1
  refine⟨by omega,by omega,by omega,by omega,by omega,by omega,by omega,by omega,by omega,by constructor<;>omega,?_⟩
  refine LoopC.intro (α:=Nat) (fun c=>c≤ts.length∧ ∀x,c≤x→x<ts.length→sz x≤65536)
   (fun c=>⟨[(0,tlsV ts),(4, .ro (.r 0)),(5, .ro (.r 1)),(6, .ro (.r 2)),(7, .i ((c:Int)-1))],
    [(0, .row 3 (.sq 1 (.i 0) (nums .i64 (dtab (sz) ts.length c)))),(1, .row 3 (.sq 1 (.i 0) (nums .i64 (dtab (nx) ts.length c)))),(2, .row 3 (.sq 1 (.i 0) (nums .i64 (dtab (ins) ts.length c))))],3⟩)
   (fun c=>c) ts.length ⟨Nat.le_refl _,fun x h1 h2=>by omega⟩ ?_ ?_
  ·simp only[bnA,reduceLeDiff,reduceEqDiff,↓reduceIte,reduceCtorEq,tlsV,tlvD,df,tab_all sz ts.length]
   rw[←tab_all (nx),←tab_all (sz),←tab_all (ins)]
   exact⟨rfl,rfl⟩
  ·rintro c ⟨g1,g2⟩
   cases c with
   |zero=>
    simp only[bnA,reduceEqDiff,reduceLT,↓reduceIte,reduceCtorEq,tlsV,tlvD,bnB]
    refine⟨fun h0=>by simp at h0,fun _=> ?_⟩
    obtain⟨o1,o2,o3⟩:=hout h1 fun x hx=>g2 x (Nat.zero_le _) hx
    subst o2
    refine LoopC.introA (α:=Nat×Nat) (fun y=>y.1≤ts.length∧2<y.2)
     (fun y=>⟨[(10, .ro (.r y.2)),(6, .ro (.r 2)),(80,tlsV ts),(81, .i ts.length),(82, .i y.1)],[(y.2, .row 5 (.by (fl ts ins 0 y.1))),(2, .row 3 (.sq 1 (.i 0) (nums .i64 (dtab ins ts.length 0))))],y.2+1⟩)
     (fun y=>ts.length-y.1) (0,3) [.sl 10 5 (.by [])] ⟨Nat.zero_le _,by simp only;omega⟩ ?_ ?_
    ·simp only[bnA,reduceLeDiff,reduceEqDiff,reduceAdd,↓reduceIte,reduceCtorEq,tlsV,tlvD,fl]
     rfl
    ·rintro⟨x,k⟩ ⟨q1,q2⟩
     simp only at q1 q2
     have n1:(k=2)=False:=by simp;omega
     have n2:(2=k)=False:=by simp;omega
     have n3: ∀j,(k+j=2)=False:=fun j=>by simp;omega
     have n4: ∀j,(2=k+j)=False:=fun j=>by simp;omega
     simp only[bnA,reduceMul,reduceLeDiff,reduceEqDiff,reduceLT,reduceAdd,↓reduceIte,reduceCtorEq,tlsV,tlvD,bnB,G5f,n1,n3]
     refine⟨fun hx=> ?_,fun hx=> ?_⟩
     ·simp only[decide_eq_true_eq] at hx
      have hx:x<ts.length:=by omega
      obtain⟨w1,w2,w3,w4⟩:=p3 x hx
      obtain⟨t0,t1⟩:=tagF_range w2
      unfold tagT at t0 t1
      have e1:(ts.getD x default).tag%256=(ts.getD x default).tag:=by omega
      have e2:(dtab ins ts.length 0).getD x 0=(ins x:Int):=tab_get _ (Nat.zero_le _) hx
      have e3:fl ts ins 0 x++[u8 (ts.getD x default).tag]++L (ins x)++(ts.getD x default).data=fl ts ins 0 (x+1):=by
       rw[fl_add,Nat.zero_add,fl,fl,pieceT,hL];simp[tagT,datT]
      have e4:=fl_pre ts ins (a:=0) (show x+1≤ts.length by omega)
      have e5:(fl ts ins 0 ts.length).length≤65536:=by rw[←o1];exact o3
      have e6:=congrArg List.length e3
      simp only[List.length_append,List.length_cons,List.length_nil] at e6
      have e7:ins x<sz x:=by rw[hsz];unfold szOf;omega
      have e8:=g2 x (Nat.zero_le _) hx
      rw[e1,e2,tab_len,Int.toNat_natCast,e3]
      simp only[List.length_append,List.length_cons,List.length_nil]
      refine⟨by omega,by omega,by omega,by omega,by omega,by omega,by omega,by omega,by omega,by omega,by omega,by omega,by constructor<;>omega,?_⟩
      refine Again.intro (x+1,k+5) ⟨by simp only;omega,by simp only;omega⟩ (by simp only;omega) ?_
      simp only[bnA,reduceLeDiff,reduceEqDiff,reduceAdd,↓reduceIte,n3]
      exact⟨by omega,Nat.le_refl _⟩
     ·simp only[decide_eq_false_iff_not] at hx
      obtain rfl:x=ts.length:=by omega
      refine RenC.intro [(0,k)] ⟨[(2, .ro (.r 0)),(3, .i 0)],[(0, .row 5 (.by (fl ts ins 0 ts.length)))],1⟩ ?_ ?_
      ·simp only[bnA,reduceLeDiff,reduceEqDiff,reduceLT,↓reduceIte]
       exact .inl (Nat.zero_le _)
      ·simp only[bnA,reduceLeDiff,reduceEqDiff,reduceAdd,↓reduceIte]
       exact o1.symm
   |succ i=>
    have ei:(((i+1:Nat):Int)-1)=(i:Int):=by omega
    obtain⟨w1,w2,w3,w4⟩:=p3 i (by omega)
    have w5:=hs.at (show i<ts.length by omega)
    simp only[ei,bnA,reduceEqDiff,reduceLT,↓reduceIte,reduceCtorEq,tlsV,tlvD,bnB]
    refine⟨fun _=> ?_,fun hi=>by simp only[decide_eq_false_iff_not] at hi;omega⟩
    refine⟨by constructor<;>omega,by omega,by omega,by omega,by omega,?_⟩
    obtain⟨M,hM⟩: ∃M:Nat,M=65536:=⟨_,rfl⟩
    refine LoopC.intro (α:=Nat×Nat×Nat) (fun y=>y.1≤kidT ts i∧i+1+y.1≤y.2.1∧y.2.1≤ts.length∧stK (f) (kidT ts i-y.1) y.2.1=some (nx i)∧y.2.2+kdN (nx) (sz) (kidT ts i-y.1) y.2.1=ins i∧y.2.2≤(datT ts i).length+(y.2.1-(i+1))*M)
     (fun y=>⟨[(0,tlsV ts),(4, .ro (.r 0)),(5, .ro (.r 1)),(6, .ro (.r 2)),(7, .i i),(8, .i y.2.1),(9, .i y.2.2),(44, .i (ts.getD i default).kids),(45, .i y.1)],
      [(0, .row 3 (.sq 1 (.i 0) (nums .i64 (dtab (sz) ts.length (i+1))))),(1, .row 3 (.sq 1 (.i 0) (nums .i64 (dtab (nx) ts.length (i+1))))),(2, .row 3 (.sq 1 (.i 0) (nums .i64 (dtab (ins) ts.length (i+1)))))],3⟩)
     (fun y=>kidT ts i-y.1) (0,i+1,(datT ts i).length) ⟨by simp only;omega,by simp only;omega,by simp only;omega,by simp only[Nat.sub_zero];exact w3,by simp only[Nat.sub_zero];exact w4.symm,Nat.le_add_right _ _⟩ ?_ ?_
    ·simp only[bnA,reduceLeDiff,reduceEqDiff,↓reduceIte,reduceCtorEq,tlsV,tlvD,datT]
     refine⟨by omega,by omega⟩
    ·rintro⟨j,k,n⟩ ⟨f1,f2,f3,f4,f5,f6⟩
     simp only at f1 f2 f3 f4 f5 f6
     simp only[bnA,reduceEqDiff,reduceLT,↓reduceIte,reduceCtorEq,tlsV,tlvD,G5f]
     simp only[tab_len]
     have f8:(k-(i+1))*M≤3518437208883*M:=Nat.mul_le_mul_right _ (by omega)
     have f9:n≤9000000000000000000:=by unfold datT at f6;omega
     have f10:=w5
     refine⟨fun hj=> ?_,fun hj=> ?_⟩
     ·simp only[decide_eq_true_eq] at hj
      have hk:kidT ts i-j=(kidT ts i-(j+1))+1:=by unfold kidT at *;omega
      rw[hk,stK] at f4
      rw[hk,kdN] at f5
      split at f4
      ·rename_i k' hk'
       obtain⟨u1,u2,hkn⟩:=hf k k' hk'
       rw[hkn] at f5
       have hsz:=g2 k (by omega) (by omega)
       rw[tab_get sz (by omega) (by omega),tab_get nx (by omega) (by omega),hkn]
       unfold datT at *
       refine⟨by omega,by omega,by omega,by constructor<;>omega,by omega,by omega,by omega,by constructor<;>omega,?_⟩
       have f7:n+sz k≤(ts.getD i default).data.length+(k'-(i+1))*M:=by
        have:(k-(i+1)+1)*M≤(k'-(i+1))*M:=Nat.mul_le_mul_right _ (by omega)
        rw[Nat.succ_mul] at this
        omega
       refine Again.intro (j+1,k',n+sz k) ⟨by simp only;unfold kidT;omega,by simp only;omega,by simp only;omega,f4,by simp only;omega,f7⟩ (by simp only;unfold kidT;omega) ?_
       simp only[bnA,reduceLeDiff,reduceEqDiff,↓reduceIte,reduceCtorEq]
       refine⟨by omega,by omega⟩
      ·cases f4
     ·simp only[decide_eq_false_iff_not] at hj
      have hk:kidT ts i-j=0:=by unfold kidT;omega
      rw[hk,stK] at f4
      rw[hk,kdN] at f5
      obtain rfl:k=nx i:=by simpa using f4
      obtain rfl:n=ins i:=by simpa using f5
      have e1:(1+((L (ins i)).length:Int)+(ins i:Int))=(sz i:Int):=by rw[hsz,hL];unfold szOf;omega
      have e2:(dtab (sz) ts.length i).getD i 0=(sz i:Int):=tab_get _ (Nat.le_refl _) (by omega)
      have e3:(L (ins i)).length≤9:=by rw[hL];exact lenF_len _ (by unfold datT at *;omega)
      rw[e1,tab_set sz ts.length i,tab_set nx ts.length i,tab_set ins ts.length i,e2,tab_len]
      unfold datT at f6
      refine⟨by omega,by omega,by omega,by omega,by omega,by omega,by omega,by omega,by constructor<;>omega,by constructor<;>omega,by omega,by omega,by omega,by omega,by omega,by omega,fun hb=> ?_,fun hb=> ?_⟩
      ·simp only[decide_eq_true_eq] at hb
       obtain⟨rfl,rfl⟩:=hbig h1 ⟨i,by omega,by omega⟩
       refine .inl ?_
       simp only[bnA,reduceLeDiff,reduceEqDiff,reduceAdd,↓reduceIte]
      ·simp only[decide_eq_false_iff_not] at hb
       refine⟨by constructor<;>omega,?_⟩
       refine Again.intro i ⟨by omega,fun x h1 h2=> ?_⟩ (by omega) ?_
       ·rcases Nat.lt_or_ge i x with hl|hl
        ·exact g2 x (by omega) h2
        ·obtain rfl:x=i:=by omega
         omega
       ·simp only[bnA,reduceLeDiff,reduceEqDiff,↓reduceIte,reduceCtorEq]
theorem bigF_iff (ts:List Tlv):bigF ts=true↔ ∃x,x<ts.length∧65536<szI ts x:=by
 unfold bigF
 rw[List.any_eq_true]
 constructor
 ·rintro⟨x,h1,h2⟩;exact⟨x,List.mem_range.1 h1,by simpa using h2⟩
 ·rintro⟨x,h1,h2⟩;exact⟨x,List.mem_range.2 h1,by simpa using h2⟩
theorem print_fn (J:Inv) (ts:List Tlv) (hs:Small ts):Fn Tryz.prog J 30 false [tlsV ts] (.tu [.by (printF ts).1, .i (printF ts).2]):=by
 refine Fn.of_plain (nx:=3) (post:=[]) ?_ (by simp[V.cl,clL,V.i])
 refine print_walk J ts hs (stF ts 32) (szI ts) (nxI ts) (inI ts) _ _ (fun h=> ?_) (fun a b h=> ?_) (fun h x hx=> ?_) (fun x=>rfl) (fun h hb=> ?_) (fun h hb=> ?_)
 ·unfold printF;rw[if_pos h];exact⟨rfl,rfl⟩
 ·obtain⟨h1,h2⟩:=stF_ok 32 h
  exact⟨h1,h2,by simp only[nxI,nxG,h,Option.getD_some]⟩
 ·exact(shapedF_shp h).2.2.step hx
 ·unfold printF;rw[if_neg (by rw[h];simp),if_pos ((bigF_iff ts).2 hb)];exact⟨rfl,rfl⟩
 ·have hnb: ¬bigF ts=true:=fun e=>by
   obtain⟨x,h1,h2⟩:=(bigF_iff ts).1 e
   have:=hb x h1
   omega
  have e:printF ts=(fl ts (inI ts) 0 ts.length,0):=by unfold printF;rw[if_neg (by rw[h];simp),if_neg hnb]
  rw[e]
  obtain⟨h1,h2,h3⟩:=shapedF_shp h
  refine⟨rfl,rfl,?_⟩
  have h4:=h3.len ts.length 0 (by omega) h2
  have h5:nxI ts 0=ts.length:=by simp only[nxI,nxG,h1,Option.getD_some]
  rw[h5] at h4
  simp only[Nat.sub_zero] at h4
  show(fl ts (inI ts) 0 ts.length).length≤65536
  rw[h4]
  exact hb 0 h2
def oidB (s:List UInt8):List UInt8:=(ooF (spl 46 s)).getD []
theorem oid_some (s:List UInt8) (h:s.length≤268435456) (h2:(ooF (spl 46 s)).isSome=true):Fn Tryz.prog JV 61 false [.str s] (.tu [.st [.val (.int .i64 6), .by (oidB s), .val (.int .i64 0)], .bb true]):=by
 have h3:=OfOid_fn s h
 obtain⟨d,hd⟩:=Option.isSome_iff_exists.1 h2
 unfold ofOidV at h3
 unfold oidB
 rw[hd] at h3⊢
 exact h3
def NMaf:FuncId→List V→CR:=fun f args=>tab [(61,cS fun s=>cF [s.length≤268435456,(ooF (spl 46 s)).isSome=true] false (.tu [.st [.val (.int .i64 6), .by (oidB s), .val (.int .i64 0)], .bb true]))] noF f args
def NMa (J:Inv):Sig:=⟨J,sdf,NMaf,noH,0⟩
theorem NMa_ok (J:Inv) (hJ: ∀w F,J.I w F→JV.I w F):SigOk Tryz.prog (NMa J):= .plain (tab_ok (.c (.s fun s=> .z fun⟨c0,c1,_⟩=>(oid_some s c0 c1).weak hJ)<| .n) noF_ok)
theorem named_own (J:Inv) (hJ: ∀w F,J.I w F→JV.I w F) (s:List UInt8) (h:s.length≤268435456) (h2:(ooF (spl 46 s)).isSome=true):FnH Tryz.prog J 33 [.str s] [] 0 (.st [.val (.int .i64 6), .by (oidB s), .val (.int .i64 0)]) [] 9:=by
 refine fnC Tryz.func33 rfl (by kernel_rfl) (NMa_ok J hJ) rfl ?_
 unfold Tryz.f33
 simp only[↓bD,bQ,reduceLeDiff,reduceEqDiff,reduceLT,reduceAdd,↓reduceIte,reduceCtorEq,NMa,NMaf]
 refine⟨h,h2,RenC.skip ?_⟩
 simp only[bQ,reduceLeDiff,reduceEqDiff,reduceLT,reduceAdd,↓reduceIte]
 skip
theorem named_fn (J:Inv) (hJ: ∀w F,J.I w F→JV.I w F) (s:List UInt8) (h:s.length≤268435456) (h2:(ooF (spl 46 s)).isSome=true):Fn Tryz.prog J 33 false [.str s] (.st [.val (.int .i64 6), .by (oidB s), .val (.int .i64 0)]):=Fn.of_plain (named_own J hJ s h h2) rfl
theorem curveName_fn (J:Inv) (c:Int):Fn Tryz.prog J 34 false [.i c] (.str (if c=2 then [49,46,51,46,49,51,50,46,48,46,51,52] else [49,46,50,46,56,52,48,46,49,48,48,52,53,46,51,46,49,46,55])):=by
 refine fnI Tryz.func34 rfl (by kernel_rfl) rfl (S0_ok J) ?_
 unfold Tryz.f34
 simp only[bQ,↓reduceIte,reduceCtorEq,S0]
 refine⟨fun h=> ?_,fun h=> ?_⟩
 ·rw[if_pos (eq_of_beq h)]
 ·rw[if_neg (beq_eq_false_iff_ne.1 h)]
def ok1:V→Bool
 | .st [.val (.int .i64 _), .by _, .val (.int .i64 _)]=>true
 | .st [.val (.int .i64 _), .val (.slice none 0 0), .val (.int .i64 _)]=>true
 |_=>false
def un1:V→Tlv
 | .st [.val (.int .i64 t), .by l, .val (.int .i64 k)]=>⟨t,l,k⟩
 | .st [.val (.int .i64 t),_, .val (.int .i64 k)]=>⟨t,[],k⟩
 |_=>default
def un2 (L:List V):List Tlv:=L.map un1
theorem un2_tls (ts:List Tlv):un2 (tls ts)=ts:=by
 simp only[un2,tls,List.map_map]
 exact(List.map_congr_left fun t _=>rfl).trans (List.map_id _)
theorem ok_tls (ts:List Tlv):(tls ts).all ok1=true:=by simp[tls,ok1,tlvV]
theorem ok1_cell {v:V} (h:ok1 v=true) {w:World} {F:Cx} {j:Nat} {x:Value} (hr:Rep w F (v.cell j) x):Rep w F ((tlvV (un1 v)).cell j) x:=by
 unfold ok1 at h
 split at h
 ·exact hr
 ·rename_i t k
  have e:(tlvV (un1 (.st [.val (.int .i64 t), .val (.slice none 0 0), .val (.int .i64 k)])))= .st [.val (.int .i64 t), .by [], .val (.int .i64 k)]:=rfl
  rw[e]
  match j with
  |0=>exact hr
  |1=>exact veq_rep (v:= .val (.slice none 0 0)) (res:= .by []) (by simp[Veq,isNil,V.elems]) hr
  |2=>exact hr
  |j+3=>exact hr
 ·cases h
theorem rep_wk {L:List V} {dd:V} (h:L.all ok1=true) {w:World} {F:Cx} {x:Value} (hr:Rep w F (.sq 3 dd L) x):Rep w F (tlsV (un2 L)) x:=by
 have he:(V.sq 3 dd L).elems=some (3,L.length,fun i=>L.getD i dd):=by simp[V.elems]
 obtain⟨A,cap,b,off,u,rfl,hcap,hA,hc,hrr⟩:=rep_sl he hr
 have hlen:(tls (un2 L)).length=L.length:=by simp[tls,un2]
 refine .sl _ 3 L.length (fun i=>(tls (un2 L)).getD i tlvD) A cap b off u (by simp[V.elems,tlsV,hlen]) hcap hA hc fun i hi j hj=> ?_
 have h1:=hrr i hi j hj
 have h2:ok1 (L.getD i dd)=true:=by
  rw[List.getD_eq_getElem?_getD,List.getElem?_eq_getElem hi]
  exact List.all_eq_true.1 h _ (List.getElem_mem hi)
 have h3:(tls (un2 L)).getD i tlvD=tlvV (un1 (L.getD i dd)):=by
  rw[List.getD_eq_getElem?_getD,List.getD_eq_getElem?_getD,tls,un2,List.map_map,List.getElem?_map,List.getElem?_eq_getElem hi];rfl
 show Rep w F (((tls (un2 L)).getD i tlvD).cell j) (u i j)
 rw[h3]
 exact ok1_cell h2 h1
theorem Fn.wk1 {P:Program} {J:Inv} {f:FuncId} {fr:Bool} {a a' res:V} {r:List V} (h:Fn P J f fr (a::r) res) (hw: ∀w F x,Rep w F a' x→Rep w F a x):Fn P J f fr (a'::r) res:=by
 refine⟨h.1,fun w F vs hI hF hlen hvs=>h.2 w F vs hI hF hlen fun i v x h1 h2=> ?_⟩
 match i with
 |0=>
  obtain rfl:a=v:=by simpa using h1
  exact hw _ _ _ (hvs 0 a' x rfl h2)
 |i+1=>exact hvs (i+1) v x h1 h2
theorem Fn.res {P:Program} {J:Inv} {f:FuncId} {fr:Bool} {args:List V} {r r':V} (h:Fn P J f fr args r) (hw: ∀w F x,Rep w F r x→Rep w F r' x):Fn P J f fr args r':=
 ⟨h.1,fun w F vs hI hF hlen hvs=>(h.2 w F vs hI hF hlen hvs).mono fun _ _ ⟨v,he,hx,hr⟩=>⟨v,he,hx,hw _ _ _ hr⟩⟩
def cT (k:List Tlv→List V→CR):List V→CR
 | .sq 3 _ L::r=>cpre [L.all ok1=true] (k (un2 L) r)
 |_=>none
theorem EntAt.t {P:Program} {J:Inv} {f:FuncId} {k:List Tlv→List V→CR} (h: ∀x,EntAt P J f (fun r=>tlsV x::r) (k x)):EntAt P J f (fun r=>r) (cT k):=fun args l fr r hk hl=>by
 unfold cT at hk
 split at hk
 ·rename_i d L rest
  obtain⟨l',h2,rfl⟩:=cpre_some hk
  exact(h _ rest l' fr r h2 hl.r).wk1 fun w F x hx=>rep_wk hl.un.1 hx
 ·cases hk
def elemF (A:List Tlv) (key:List UInt8):List Tlv:=⟨48,[],2⟩::⟨48,[],A.length⟩::(A++[⟨3,0::key,0⟩])
def elemL (A:List Tlv) (key:List UInt8):List V:= .st [.val (.int .i64 48), .val (.slice none 0 0), .val (.int .i64 2)]:: .st [.val (.int .i64 48), .val (.slice none 0 0), .val (.int .i64 A.length)]::(tls A++[.st [.val (.int .i64 3), .by (0::key), .val (.int .i64 0)]])
theorem elemL_un (A:List Tlv) (key:List UInt8):(elemL A key).all ok1=true∧un2 (elemL A key)=elemF A key:=by
 constructor
 ·simp only[elemL,List.all_cons,List.all_append,ok_tls,ok1,List.all_nil,Bool.and_true]
 ·have:=un2_tls A
  simp only[un2] at this
  simp only[elemL,elemF,un2,List.map_cons,List.map_append,this,un1,List.map_nil]
def dfo (t:TypeId):V:=if t=3 then .val (.int .i64 0) else if t=47 then tlvOD else .any
def S0o (J:Inv) (b:Nat):Sig:=⟨J,dfo,S0f,noH,b⟩
theorem S0o_ok (J:Inv) (b:Nat):SigOk Tryz.prog (S0o J b):= .plain fun _ _ _ _ _ h=>by simp[S0f] at h
theorem selem_own (J:Inv) (A:List Tlv) (key:List UInt8) (hA:A.length≤16) (hk:key.length≤67108864):FnH Tryz.prog J 32 [tlsV A, .by key] [] 0 (.sq 3 tlvD (elemL A key)) [] 6:=by
 refine fnJ Tryz.func32 rfl (by kernel_rfl) (S0o_ok J 0) rfl ?_
 unfold Tryz.f32
 simp only[bnA,reduceMul,reduceLeDiff,reduceEqDiff,reduceLT,reduceAdd,↓reduceIte,reduceCtorEq,tlsV,tlvD,tlvOD,bnB,S0o,tlsV,dfo,tlvOD,tlvD]
 have e0:u8 0=0:=rfl
 simp only[List.length_append,tls_len,List.length_cons,List.length_nil,e0]
 refine⟨by omega,by omega,by omega,by omega,by omega,RenC.skip ?_⟩
 simp only[bnA,reduceLeDiff,↓reduceIte,bnB,elemL]
 rw[List.map_append,tls_er]
 simp[tls,tlvV,er2,er1]
theorem selem_fn (J:Inv) (A:List Tlv) (key:List UInt8) (hA:A.length≤16) (hk:key.length≤67108864):Fn Tryz.prog J 32 false [tlsV A, .by key] (tlsV (elemF A key)):=by
 have h:=Fn.of_plain (selem_own J A key hA hk) (by simp[V.cl,clL,elemL,clL_all,tls,tlvV])
 rw[←(elemL_un A key).2]
 exact h.res fun w F x hx=>rep_wk (elemL_un A key).1 hx
def parseF (l:List UInt8):List Tlv×Int×Nat:=
 if 65536<l.length then ([],10,0)
 else if (elF l 32 0 l.length []).code=0 then
  if (elF l 32 0 l.length []).ret<l.length then ([],80,(elF l 32 0 l.length []).ret) else ((elF l 32 0 l.length []).out,0,0)
 else ([],(elF l 32 0 l.length []).code,(elF l 32 0 l.length []).place)
def At (l':List UInt8) (s:Nat) (l:List UInt8):Prop:= ∃pre suf,l'=pre++(l++suf)∧pre.length=s
theorem At.byte {l' l:List UInt8} {s:Nat} (h:At l' s l) {i:Nat} (hi:i<l.length):byteN l' (s+i)=byteN l i:=by
 obtain⟨pre,suf,rfl,rfl⟩:=h
 rw[byteN_eq,byteN_eq,List.getElem?_append_right (by omega),Nat.add_sub_cancel_left,List.getElem?_append_left hi]
theorem At.cut {l' l:List UInt8} {s:Nat} (h:At l' s l) {f n:Nat} (hi:f+n≤l.length):(l'.drop (s+f)).take n=(l.drop f).take n:=by
 obtain⟨pre,suf,rfl,rfl⟩:=h
 rw[←List.drop_drop,List.drop_left,List.drop_append_of_le_length (by omega),List.take_append_of_le_length (by simp;omega)]
theorem At.left {l' a b:List UInt8} {s:Nat} (h:At l' s (a++b)):At l' s a:=by
 obtain⟨pre,suf,rfl,rfl⟩:=h
 exact⟨pre,b++suf,by simp,rfl⟩
theorem At.right {l' a b:List UInt8} {s:Nat} (h:At l' s (a++b)):At l' (s+a.length) b:=by
 obtain⟨pre,suf,rfl,rfl⟩:=h
 exact⟨pre++a,suf,by simp,by simp⟩
theorem beV_ext {a b:List UInt8}: ∀{k:Nat},(∀i,i<k→byteN a i=byteN b i)→beV a k=beV b k
 |0,_=>rfl
 |k+1,h=>by rw[beV,beV,beV_ext (fun i hi=>h i (by omega)),h k (by omega)]
theorem byteN_drop (l:List UInt8) (a i:Nat):byteN (l.drop a) i=byteN l (a+i):=by rw[byteN_eq,byteN_eq,List.getElem?_drop]
theorem headF_at {l l':List UInt8} {s:Nat} (h:At l' s l) {p q:Nat} (hq:q≤l.length):
  (headF l' (s+p) (s+q)).2.2=(headF l p q).2.2∧((headF l p q).2.2=true→(headF l' (s+p) (s+q)).1=s+(headF l p q).1∧(headF l' (s+p) (s+q)).2.1=s+(headF l p q).2.1):=by
 unfold headF
 by_cases h1:q<p+2
 ·rw[if_pos h1,if_pos (by omega)];simp
 ·rw[if_neg h1,if_neg (by omega)]
  have e1:byteN l' (s+p+1)=byteN l (p+1):=h.byte (i:=p+1) (by omega)
  rw[e1]
  by_cases h2:byteN l (p+1)<128
  ·rw[if_pos h2,if_pos h2]
   refine⟨?_,fun _=>⟨?_,?_⟩⟩
   ·simp only[decide_eq_decide];omega
   ·simp only;omega
   ·simp only;omega
  ·rw[if_neg h2,if_neg h2]
   by_cases h3:byteN l (p+1)=128∨132<byteN l (p+1)∨q<p+2+(byteN l (p+1)-128)
   ·rw[if_pos (by omega),if_pos (by omega)];simp
   ·have e2:byteN l' (s+p+2)=byteN l (p+2):=h.byte (i:=p+2) (by omega)
    rw[e2]
    by_cases h4:byteN l (p+2)=0∨(byteN l (p+1)=129∧byteN l (p+2)<128)
    ·rw[if_pos (by omega),if_pos (by omega)];simp
    ·rw[if_neg (by omega),if_neg (by omega)]
     have e3:beV (l'.drop (s+p+2)) (byteN l (p+1)-128)=beV (l.drop (p+2)) (byteN l (p+1)-128):=beV_ext fun i hi=>by
      rw[byteN_drop,byteN_drop,show s+p+2+i=s+(p+2+i) from by omega,h.byte (by omega)]
     rw[e3]
     refine⟨?_,fun _=>⟨?_,?_⟩⟩
     ·simp only[decide_eq_decide];omega
     ·simp only;omega
     ·simp only;omega
theorem headF_q {l:List UInt8} {p q q2:Nat} (h:(headF l p q).2.2=true) (hq:q≤q2):headF l p q2=headF l p q:=by
 unfold headF at h⊢
 by_cases h1:q<p+2
 ·rw[if_pos h1] at h;simp at h
 ·rw[if_neg h1] at h
  rw[if_neg h1,if_neg (show ¬q2<p+2 by omega)]
  by_cases h2:byteN l (p+1)<128
  ·rw[if_pos h2] at h
   rw[if_pos h2,if_pos h2]
   simp only[decide_eq_true_eq] at h
   simp only[Prod.mk.injEq,true_and,decide_eq_decide];omega
  ·rw[if_neg h2] at h
   rw[if_neg h2,if_neg h2]
   by_cases h3:byteN l (p+1)=128∨132<byteN l (p+1)∨q<p+2+(byteN l (p+1)-128)∨byteN l (p+2)=0∨(byteN l (p+1)=129∧byteN l (p+2)<128)
   ·rw[if_pos h3] at h;simp at h
   ·rw[if_neg h3] at h
    rw[if_neg h3,if_neg (by omega)]
    simp only[decide_eq_true_eq] at h
    simp only[Prod.mk.injEq,true_and,decide_eq_decide];omega
theorem byteAt_byte {l l':List UInt8} {i j:Nat} (h:byteN l i=byteN l' j):byteAt l i=byteAt l' j:=by rw[byteAt_N,byteAt_N,h]
theorem headF_lt {l:List UInt8} {p q:Nat} (h:(headF l p q).2.2=true):p+2≤q:=by
 have:=headF_ok h;omega
theorem tag_at {l l':List UInt8} {s:Nat} (h:At l' s l) {p q:Nat} (hq:q≤l.length):tagAt l' (s+p) (s+q)=tagAt l p q:=by
 unfold tagAt
 rw[(headF_at h hq).1]
 split
 ·rename_i h1
  have:=headF_lt h1
  exact byteAt_byte (h.byte (by omega))
 ·rfl
theorem cut_at {l l':List UInt8} {s:Nat} (h:At l' s l) {p q:Nat} (hq:q≤l.length) (ho:(headF l p q).2.2=true):cutF l' (s+p) (s+q)=cutF l p q:=by
 obtain⟨h1,h2⟩:=(headF_at h (p:=p) hq).2 ho
 have h3:=headF_ok ho
 unfold cutF
 rw[h1,h2,show s+(headF l p q).2.1-(s+(headF l p q).1)=(headF l p q).2.1-(headF l p q).1 from by omega]
 exact h.cut (by omega)
theorem bad_at {l l':List UInt8} {s:Nat} (h:At l' s l) {p q:Nat} (hq:q≤l.length):badF l' (s+p) (s+q)=badF l p q:=by
 unfold badF
 rw[tag_at h hq,(headF_at h (p:=p) hq).1]
 cases ho:(headF l p q).2.2
 ·simp
 ·rw[cut_at h hq ho]
theorem bad_ok {l:List UInt8} {p q:Nat} (h: ¬badF l p q=true):(headF l p q).2.2=true:=by
 cases ho:(headF l p q).2.2
 ·exact absurd (badF_no' ho) h
 ·rfl
where badF_no' {l:List UInt8} {p q:Nat} (h:(headF l p q).2.2=false):badF l p q=true:=by unfold badF;rw[h];simp
def sh (s:Nat) (e:ER):ER:=⟨e.out,e.code,if e.code=0 then 0 else s+e.place,if e.code=0 then s+e.ret else 0⟩
theorem kdF_at {s L:Nat} {rec rec':Nat→Nat→List Tlv→ER} (h: ∀p q out,q≤L→rec' (s+p) (s+q) out=sh s (rec p q out)) {me tq:Nat} (ht:tq≤L): ∀n p out,kdF rec' me (s+tq) n (s+p) out=sh s (kdF rec me tq n p out)
 |0,p,out=>by rw[kdF,kdF];rfl
 |n+1,p,out=>by
  rw[kdF,kdF,h p tq out ht]
  by_cases h1:p<tq
  ·rw[if_pos h1,if_pos (by omega)]
   by_cases h2:(rec p tq out).code=0
   ·rw[if_pos h2,if_pos (by simpa [sh] using h2)]
    simp only[sh,if_pos h2]
    exact kdF_at h ht n _ _
   ·rw[if_neg h2,if_neg (by simpa [sh] using h2)]
    simp[sh,h2]
  ·rw[if_neg h1,if_neg (by omega)];rfl
theorem elB_at {l l':List UInt8} {s:Nat} (h:At l' s l) {rec rec':Option (Nat→Nat→List Tlv→ER)} (hr:(rec=none∧rec'=none)∨ ∃r r',rec=some r∧rec'=some r'∧ ∀p q out,q≤l.length→r' (s+p) (s+q) out=sh s (r p q out)) {p q:Nat} {out:List Tlv} (hq:q≤l.length):elB l' rec' (s+p) (s+q) out=sh s (elB l rec p q out):=by
 unfold elB
 rw[bad_at h hq]
 by_cases hb:badF l p q=true
 ·rw[if_pos hb,if_pos hb];rfl
 ·have ho:=bad_ok hb
  rw[if_neg hb,if_neg hb,tag_at h hq,cut_at h hq ho]
  obtain⟨h1,h2⟩:=(headF_at h (p:=p) hq).2 ho
  have h3:=headF_ok ho
  rw[h1,h2]
  by_cases hi:innerF (tagAt l p q)=false
  ·rw[if_pos hi,if_pos hi];rfl
  ·rw[if_neg hi,if_neg hi]
   rcases hr with ⟨rfl,rfl⟩|⟨r,r',rfl,rfl,hr⟩
   ·rfl
   ·simp only
    rw[show s+(headF l p q).2.1-(s+(headF l p q).1)+1=(headF l p q).2.1-(headF l p q).1+1 from by omega]
    exact kdF_at hr (by omega) _ _ _
theorem elF_at {l l':List UInt8} {s:Nat} (h:At l' s l): ∀d {p q:Nat} {out:List Tlv},q≤l.length→elF l' d (s+p) (s+q) out=sh s (elF l d p q out)
 |0,_,_,_,hq=>elB_at h (.inl ⟨rfl,rfl⟩) hq
 |d+1,_,_,_,hq=>elB_at h (.inr ⟨_,_,rfl,rfl,fun _ _ _ hq=>elF_at h d hq⟩) hq
theorem elB_q {l:List UInt8} {rec:Option (Nat→Nat→List Tlv→ER)} {p q q2:Nat} {out:List Tlv} (h:(headF l p q).2.2=true) (hq:q≤q2):elB l rec p q2 out=elB l rec p q out:=by
 unfold elB badF tagAt cutF
 rw[headF_q h hq]
theorem elF_q {l:List UInt8} {d p q q2:Nat} {out:List Tlv} (h:(headF l p q).2.2=true) (hq:q≤q2):elF l d p q2 out=elF l d p q out:=by
 cases d<;>exact elB_q h hq
theorem elB_head {l:List UInt8} {rec:Option (Nat→Nat→List Tlv→ER)} {p q:Nat} {out:List Tlv} (h:(elB l rec p q out).code≠80):(headF l p q).2.2=true:=by
 apply bad_ok
 intro hb
 unfold elB at h
 rw[if_pos hb] at h
 exact h rfl
theorem elF_head {l:List UInt8} {d p q:Nat} {out:List Tlv} (h:(elF l d p q out).code≠80):(headF l p q).2.2=true:=by
 cases d<;>exact elB_head h
theorem byteN_cons (c:UInt8) (l:List UInt8) (i:Nat):byteN (c::l) (i+1)=byteN l i:=by rw[byteN_eq,byteN_eq,List.getElem?_cons_succ]
theorem byteN_zero (c:UInt8) (l:List UInt8):byteN (c::l) 0=c.toNat:=rfl
theorem byteN_left {a b:List UInt8} {i:Nat} (h:i<a.length):byteN (a++b) i=byteN a i:=by rw[byteN_eq,byteN_eq,List.getElem?_append_left h]
theorem byteN_mid (a b:List UInt8):byteN (a++b) a.length=byteN b 0:=by rw[byteN_eq,byteN_eq,List.getElem?_append_right (Nat.le_refl _),Nat.sub_self]
theorem u8_nah {n:Nat} (h:n<256):(u8 (n:Int)).toNat=n:=by
 have:=u8_toNat (n:Int) (by omega) (by omega);omega
theorem beV_left {a b:List UInt8} {k:Nat} (h:k≤a.length):beV (a++b) k=beV a k:=beV_ext fun i hi=>byteN_left (by omega)
theorem beV_beF (n:Nat):beV (beF n) (beF n).length=n:=by
 induction n using Nat.strongRecOn with
 |_ n ih=>
  rw[beF]
  split
  ·rename_i h;simp[beV,h]
  ·rw[List.length_append,List.length_singleton,beV,beV_left (Nat.le_refl _),ih (n/256) (by omega),byteN_mid,byteN_zero,u8_nah (by omega)]
   omega
theorem beF_pos {n:Nat} (h:0<n):0<(beF n).length:=by
 rw[beF,if_neg (by omega)];simp
theorem beF_lead (n:Nat) (h:0<n):byteN (beF n) 0≠0:=by
 induction n using Nat.strongRecOn with
 |_ n ih=>
  rw[beF,if_neg (by omega)]
  by_cases h1:n<256
  ·rw[show n/256=0 from by omega,show beF 0=[] from by rw[beF];simp,List.nil_append,byteN_zero,u8_nah (by omega)]
   omega
  ·rw[byteN_left (beF_pos (by omega))]
   exact ih _ (by omega) (by omega)
theorem headF_len {c:UInt8} {n q:Nat} {r:List UInt8} (hn:n<4294967296) (hq:1+(lenF n).length+n≤q):headF (c::(lenF n++r)) 0 q=(1+(lenF n).length,1+(lenF n).length+n,true):=by
 unfold lenF at hq⊢
 by_cases h1:n<128
 ·rw[if_pos h1] at hq⊢
  simp only[List.length_cons,List.length_nil] at hq⊢
  unfold headF
  have e:byteN (c::([u8 (n:Int)]++r)) (0+1)=n:=by rw[byteN_cons,List.singleton_append,byteN_zero,u8_nah (by omega)]
  rw[if_neg (by omega),e,if_pos h1]
  simp only[Prod.mk.injEq,decide_eq_true_eq,true_and];omega
 ·rw[if_neg h1] at hq⊢
  simp only[List.length_cons] at hq⊢
  have h2:=beF_pos (n:=n) (by omega)
  have h3:=beF_len n 4 (by omega)
  have h4:=beF_lead n (by omega)
  have h5:=beV_beF n
  generalize hK:(beF n).length=K at h2 h3 h5 hq⊢
  have e1:byteN (c::((u8 ((128+K:Nat):Int)::beF n)++r)) (0+1)=128+K:=by rw[byteN_cons,List.cons_append,byteN_zero,u8_nah (by omega)]
  have e2:byteN (c::((u8 ((128+K:Nat):Int)::beF n)++r)) (0+2)=byteN (beF n) 0:=by
   rw[show 0+2=0+1+1 from rfl,byteN_cons,List.cons_append,byteN_cons,byteN_left (by omega)]
  have e3:beV ((c::((u8 ((128+K:Nat):Int)::beF n)++r)).drop (0+2)) (128+K-128)=n:=by
   simp only[List.cons_append,List.drop_succ_cons,List.drop_zero]
   rw[show 128+K-128=K from by omega,beV_left (by omega),h5]
  unfold headF
  rw[if_neg (by omega),e1,if_neg (by omega),e2,e3]
  rw[if_neg]
  ·simp only[Prod.mk.injEq,decide_eq_true_eq];omega
  ·rintro(h|h|h|h|⟨h,h'⟩)
   ·omega
   ·omega
   ·omega
   ·exact h4 h
   ·have:K=1:=by omega
    rw[this] at h5
    simp only[beV] at h5
    omega
end Go.Proofs.YtfengpdaocgcnaaGreatDoor
