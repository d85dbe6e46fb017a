/- The bytes of a key as memory of the caller's own. SpkiWrites: what it computes. -/
import Derived.Test.YtfengpdaocgcnaaGreatDoorT47
import Derived.Test.YtfengpdaocgcnaaGreatDoorT42
import Derived.Test.YtfengpdaocgcnaaGreatDoorT39
import Derived.Test.YtfengpdaocgcnaaGreatDoorT32
import Derived.Test.YtfengpdaocgcnaaGreatDoorT24
namespace Go.Proofs.YtfengpdaocgcnaaGreatDoor
open Nat (reduceMul reduceLeDiff reduceEqDiff reduceLT reduceAdd reduceSub reduceDiv)
open Int (reduceToNat reducePow)
open Go.RowKit
set_option linter.unusedSimpArgs false
set_option maxRecDepth 100000
theorem FnH.wk1 {P:Program} {J:Inv} {f:FuncId} {a b:V} {r:List V} {pre post:List (Nat×Ob)} {nx nx':Nat} {res:V} (h:FnH P J f (a::r) pre nx res post nx') (hw: ∀w F x,Rep w F b x→Rep w F a x):FnH P J f (b::r) pre nx res post nx':=
 ⟨h.1,fun w F vs hM hlen hvs=>h.2 w F vs hM hlen fun i v x h1 h2=>by
  match i,h1 with
  |0,h1=>
   obtain rfl:a=v:=by simpa using h1
   exact hw _ _ _ (hvs 0 b x rfl h2)
  |i+1,h1=>exact hvs (i+1) v x h1 h2⟩
def POh:FuncId→List V→List (Nat×Ob)→Nat→Option CallH:=fun f args h nx=>
 if f=30 then match args with
  |[v]=>match (fz h v).1 with
   | .sq 3 _ L=>some ⟨[L.all ok1=true,Small (un2 L)],[true],[], .tu [.ro (.r nx), .i (printF (un2 L)).2],[(nx, .row 5 (.by (printF (un2 L)).1))],nx+1⟩
   |_=>none
  |_=>none
 else none
theorem POh_ok (J:Inv) (f:FuncId) (args:List V) (h:List (Nat×Ob)) (nx:Nat) (c:CallH) (hc:POh f args h nx=some c) (hl:AllP c.l):FnH Tryz.prog J f (mixA h c.bw args).1 c.pre nx c.res c.post c.nx:=by
 unfold POh at hc
 split at hc
 ·rename_i hf;subst hf
  split at hc
  ·rename_i v
   split at hc
   ·rename_i d L hv
    obtain rfl:=Option.some.inj hc
    have q1:L.all ok1=true:=hl _ (by simp)
    have q2:Small (un2 L):=hl _ (by simp)
    show FnH _ _ _ [(fz h v).1] _ _ _ _ _
    rw[hv]
    exact(print_own J (un2 L) nx q2).wk1 fun w F x hx=>rep_wk q1 hx
   ·cases hc
  ·cases hc
 ·cases hc
def POaf:FuncId→List V→CR:=fun f args=>tab [(32,cT fun ts=>cY fun k=>cF [ts.length≤16,k.length≤67108864] false (tlsV (elemF ts k))),
 (33,cS fun s=>cF [s.length≤268435456,(ooF (spl 46 s)).isSome=true] false (.st [.val (.int .i64 6), .by (oidB s), .val (.int .i64 0)])),
 (34,cI .i64 fun c=>cF [] false (.str (cvN c))),
 (31,cY fun b=>cF [b.length≤140737488350000] false (.st [.val (.int .i64 2), .by (ofuD b), .val (.int .i64 0)])),
 (29,cK fun k=>cF [k.Ok] false (.bb k.good))] noF f args
def POa (J:Inv):Sig:=⟨J,sdf,POaf,noH,0⟩
theorem POa_ok (J:Inv) (hJ: ∀w F,J.I w F→JV.I w F) (hE:EdT J):SigOk Tryz.prog (POa J):= .plain (tab_ok (.c (.t fun ts=> .y fun k=> .z fun⟨c0,c1,_⟩=>selem_fn J ts k c0 c1)<|
 .c (.s fun s=> .z fun⟨c0,c1,_⟩=>named_fn J hJ s c0 c1)<|
 .c (.i fun c=> .z fun _=>curveName_fn J c)<|
 .c (.y fun b=> .z fun⟨c0,_⟩=>(OfUint_fn b c0).weak hJ)<|
 .c (.k fun _=> .z fun⟨c0,_⟩=>good_fn J hE _ _ _ _ _ _ _ c0.s c0.n c0.e c0.x c0.y)<| .n) noF_ok)
def PO (J:Inv) (nx:Nat):Sig:=⟨J,sdf,POaf,POh,nx⟩
theorem PO_ok (J:Inv) (hJ: ∀w F,J.I w F→JV.I w F) (hE:EdT J) (nx:Nat):SigOk Tryz.prog (PO J nx):=⟨(POa_ok J hJ hE).1,POh_ok J⟩
theorem po_fin {nx m N:Nat} {E:En} {H:List (Nat×Ob)} {R:List UInt8×Int} (h2:E.get 2=some (.ro (.r (nx+m)))) (h3:E.get 3=some (.val (.int .i64 R.2))) (h4:Hroot H (nx+m)=some (.row 5 (.by R.1))):RenC nx (RetC Tryz.prog Tryz.f9.results.toList (.tu [.ro (.r nx), .val (.int .i64 R.2)]) (Back [(nx, .row 5 (.by R.1))] (nx+40))) ⟨E,H,N⟩:=by
 have n1: ∀j,(nx+j<nx)=False:=fun j=>by simp
 have n0:(nx<nx)=False:=by simp
 refine RenC.intro [(nx,nx+m)] ⟨[(2, .ro (.r nx)),(3, .val (.int .i64 R.2))],[(nx, .row 5 (.by R.1))],nx+1⟩ ?_ ?_
 ·simp only[bQ,↓reduceIte,h2,h3,h4,n0]
  omega
 ·simp only[bQ,reduceLeDiff,reduceEqDiff,reduceAdd,↓reduceIte,Tryz.f9]
  omega
theorem sprintO4_own (J:Inv) (hJ: ∀w F,J.I w F→JV.I w F) (hE:EdT J) (k:Ky) (hk:k.Ok) (ht:k.kty=4) (hg:k.good=true) (nx:Nat):FnH Tryz.prog J 9 [k.V] [] nx (.tu [.ro (.r nx), .i (printF (elemF algO k.x)).2]) [(nx, .row 5 (.by (printF (elemF algO k.x)).1))] (nx+40):=by
 rcases k with ⟨kty,crv,s,n,e,x,y⟩
 simp only at ht
 subst ht
 have hx:=hk.x
 simp only at hx
 have hs2:Small (elemF algO x):=small_elem (by simp[algO]) (fun t ht=>by simp only[algO,List.mem_cons,List.not_mem_nil,or_false] at ht;subst ht;simp only[nm_ed.2];simp) (by omega)
 simp only[algO,nm_ed] at hs2⊢
 refine fnC Tryz.func9 rfl (by kernel_rfl) (PO_ok J hJ hE nx) rfl ?_
 unfold Tryz.f9
 have n1: ∀j,(nx+j<nx)=False:=fun j=>by simp
 have n0:(nx<nx)=False:=by simp
 have en:[49,46,51,46,49,48,49,46,49,49,50]=edN:=rfl
 simp only[↓bD,bQ,reduceEqDiff,reduceLT,reduceAdd,↓reduceIte,PO,POaf,Ky.V,keyV,k_eq,cK,keyW,byN,hg]
 refine⟨hk,?_⟩
 refine DrawC.tree (.q 2 [] (.q 3 [] (.one 0 (.one 1 (.one 4 (.one 5 (.q 6 [] (.q 7 [] (.q 8 [] (.q 9 [] .done)))))))))) [] (by kernel_rfl) ?_
 simp only[↓bD,bQ,reduceMul,reduceLeDiff,reduceEqDiff,reduceLT,reduceAdd,↓reduceIte,reduceCtorEq,bnB,POaf,POh,cT,ok1,un1,un2_cons,un2_nil,tlsV,tlvD,ok_tls,un2_tls,en,nm_ed]
 repeat' with_reducible apply And.intro
 all_goals first|omega|exact hs2|decide|(refine po_fin (m:=2) ?_ ?_ ?_<;>simp only[En.get,Hroot,Nat.reduceEqDiff,if_true,if_false];done)|(refine po_fin (m:=3) ?_ ?_ ?_<;>simp only[En.get,Hroot,Nat.reduceEqDiff,if_true,if_false];done)|(refine po_fin (m:=4) ?_ ?_ ?_<;>simp only[En.get,Hroot,Nat.reduceEqDiff,if_true,if_false];done)|(refine po_fin (m:=5) ?_ ?_ ?_<;>simp only[En.get,Hroot,Nat.reduceEqDiff,if_true,if_false];done)|(refine po_fin (m:=6) ?_ ?_ ?_<;>simp only[En.get,Hroot,Nat.reduceEqDiff,if_true,if_false];done)|(refine po_fin (m:=7) ?_ ?_ ?_<;>simp only[En.get,Hroot,Nat.reduceEqDiff,if_true,if_false];done)|trace_state
theorem sprintO3_own (J:Inv) (hJ: ∀w F,J.I w F→JV.I w F) (hE:EdT J) (k:Ky) (hk:k.Ok) (ht:k.kty=3) (hg:k.good=true) (nx:Nat):FnH Tryz.prog J 9 [k.V] [] nx (.tu [.ro (.r nx), .i (printF (elemF (algE k.crv) (4::(k.x++k.y)))).2]) [(nx, .row 5 (.by (printF (elemF (algE k.crv) (4::(k.x++k.y)))).1))] (nx+40):=by
 rcases k with ⟨kty,crv,s,n,e,x,y⟩
 simp only at ht
 subst ht
 have hx:=hk.x
 have hy:=hk.y
 simp only at hx hy
 obtain⟨c1,c2,c3⟩:=nm_cv crv
 have hs2:Small (elemF (algE crv) (4::(x++y))):=small_elem (by simp[algE]) (fun t ht=>by simp only[algE,List.mem_cons,List.not_mem_nil,or_false] at ht;rcases ht with rfl|rfl<;>simp only[nm_ec.2]<;>first|(simp;done)|omega) (by simp;omega)
 simp only[algE,nm_ec] at hs2⊢
 refine fnC Tryz.func9 rfl (by kernel_rfl) (PO_ok J hJ hE nx) rfl ?_
 unfold Tryz.f9
 have n1: ∀j,(nx+j<nx)=False:=fun j=>by simp
 have n0:(nx<nx)=False:=by simp
 have en:[49,46,50,46,56,52,48,46,49,48,48,52,53,46,50,46,49]=ecN:=rfl
 have e4:u8 4=4:=rfl
 simp only[↓bD,bQ,reduceEqDiff,reduceLT,reduceAdd,↓reduceIte,PO,POaf,Ky.V,keyV,k_eq,cK,keyW,byN,hg]
 refine⟨hk,?_⟩
 refine DrawC.tree (.q 1 [] (.q 2 [] (.q 7 [] (.q 8 [] (.q 10 [] (.q 11 [] (.two 0 6 (.two 3 6 (.two 4 6 (.two 5 6 (.one 6 (.one 9 (.one 12 (.one 13 (.one 14 (.q 15 [] (.q 16 [] (.q 17 [] (.q 18 [] .done))))))))) (.two 5 9 (.one 9 (.one 12 (.one 13 (.one 14 (.q 15 [] (.q 16 [] (.q 17 [] (.q 18 [] .done)))))))) (.two 5 12 (.one 12 (.one 13 (.one 14 (.q 15 [] (.q 16 [] (.q 17 [] (.q 18 [] .done))))))) (.one 5 (.one 13 (.one 14 (.q 15 [] (.q 16 [] (.q 17 [] (.q 18 [] .done)))))))))) (.one 4 (.two 5 9 (.one 9 (.one 12 (.one 13 (.one 14 (.q 15 [] (.q 16 [] (.q 17 [] (.q 18 [] .done)))))))) (.two 5 12 (.one 12 (.one 13 (.one 14 (.q 15 [] (.q 16 [] (.q 17 [] (.q 18 [] .done))))))) (.one 5 (.one 13 (.one 14 (.q 15 [] (.q 16 [] (.q 17 [] (.q 18 [] .done))))))))))) (.one 3 (.one 4 (.two 5 9 (.one 9 (.one 12 (.one 13 (.one 14 (.q 15 [] (.q 16 [] (.q 17 [] (.q 18 [] .done)))))))) (.two 5 12 (.one 12 (.one 13 (.one 14 (.q 15 [] (.q 16 [] (.q 17 [] (.q 18 [] .done))))))) (.one 5 (.one 13 (.one 14 (.q 15 [] (.q 16 [] (.q 17 [] (.q 18 [] .done)))))))))))) (.one 0 (.one 3 (.one 4 (.two 5 9 (.one 9 (.one 12 (.one 13 (.one 14 (.q 15 [] (.q 16 [] (.q 17 [] (.q 18 [] .done)))))))) (.two 5 12 (.one 12 (.one 13 (.one 14 (.q 15 [] (.q 16 [] (.q 17 [] (.q 18 [] .done))))))) (.one 5 (.one 13 (.one 14 (.q 15 [] (.q 16 [] (.q 17 [] (.q 18 [] .done))))))))))))))))))) [] (by kernel_rfl) ?_
 simp only[↓bD,bQ,reduceMul,reduceLeDiff,reduceEqDiff,reduceLT,reduceAdd,↓reduceIte,reduceCtorEq,bnB,POaf,POh,cT,ok1,un1,un2_cons,un2_nil,tlsV,tlvD,ok_tls,un2_tls,en,nm_ec,e4,List.length_append]
 repeat' with_reducible apply And.intro
 all_goals first|omega|exact hs2|assumption|decide|(refine po_fin (m:=2) ?_ ?_ ?_<;>simp only[En.get,Hroot,Nat.reduceEqDiff,if_true,if_false];done)|(refine po_fin (m:=3) ?_ ?_ ?_<;>simp only[En.get,Hroot,Nat.reduceEqDiff,if_true,if_false];done)|(refine po_fin (m:=4) ?_ ?_ ?_<;>simp only[En.get,Hroot,Nat.reduceEqDiff,if_true,if_false];done)|(refine po_fin (m:=5) ?_ ?_ ?_<;>simp only[En.get,Hroot,Nat.reduceEqDiff,if_true,if_false];done)|(refine po_fin (m:=6) ?_ ?_ ?_<;>simp only[En.get,Hroot,Nat.reduceEqDiff,if_true,if_false];done)|(refine po_fin (m:=7) ?_ ?_ ?_<;>simp only[En.get,Hroot,Nat.reduceEqDiff,if_true,if_false];done)|trace_state
theorem sprintO2_own (J:Inv) (hJ: ∀w F,J.I w F→JV.I w F) (hE:EdT J) (k:Ky) (hk:k.Ok) (ht:k.kty=2) (hg:k.good=true) (nx:Nat):FnH Tryz.prog J 9 [k.V] [] nx (.tu [.ro (.r nx), .i (printF (elemF algR (printF (innL k.n k.e)).1)).2]) [(nx, .row 5 (.by (printF (elemF algR (printF (innL k.n k.e)).1)).1))] (nx+40):=by
 rcases k with ⟨kty,crv,s,n,e,x,y⟩
 simp only at ht
 subst ht
 have hn:=hk.n
 have he:=hk.e
 have hs1:=small_inn hn he
 have hl:=printF_len (innL n e)
 have hs2:Small (elemF algR (printF (innL n e)).1):=small_elem (by decide) (fun t ht=>by simp only[algR,nm_rsa.2,List.mem_cons,List.not_mem_nil,or_false] at ht;rcases ht with rfl|rfl<;>simp) (by omega)
 simp only at hn he
 simp only[innL,algR,nm_rsa] at hs1 hs2 hl⊢
 refine fnC Tryz.func9 rfl (by kernel_rfl) (PO_ok J hJ hE nx) rfl ?_
 unfold Tryz.f9
 have n1: ∀j,(nx+j<nx)=False:=fun j=>by simp
 have n0:(nx<nx)=False:=by simp
 have en:[49,46,50,46,56,52,48,46,49,49,51,53,52,57,46,49,46,49,46,49]=rsaN:=rfl
 simp only[↓bD,bQ,reduceEqDiff,reduceLT,reduceAdd,↓reduceIte,PO,POaf,Ky.V,keyV,cK,keyW,byN,hg]
 refine⟨hk,?_⟩
 refine DrawC.tree (.q 1 [] (.q 2 [] (.q 4 [] (.q 5 [] (.two 0 3 (.one 3 (.one 6 (.one 7 (.one 8 (.q 9 [] (.q 10 [] (.q 11 [] (.q 12 [] (.q 13 [] .done))))))))) (.two 0 6 (.one 6 (.one 7 (.one 8 (.q 9 [] (.q 10 [] (.q 11 [] (.q 12 [] (.q 13 [] .done)))))))) (.one 0 (.one 7 (.one 8 (.q 9 [] (.q 10 [] (.q 11 [] (.q 12 [] (.q 13 [] .done)))))))))))))) [] (by kernel_rfl) ?_
 simp only[↓bD,bQ,reduceMul,reduceLeDiff,reduceEqDiff,reduceLT,reduceAdd,↓reduceIte,reduceCtorEq,bnB,POaf,POh,cT,ok1,un1,un2_cons,un2_nil,tlsV,tlvD,ok_tls,un2_tls,en,nm_rsa]
 repeat' with_reducible apply And.intro
 all_goals first|omega|exact hs1|exact hs2|decide|(refine po_fin (m:=2) ?_ ?_ ?_<;>simp only[En.get,Hroot,Nat.reduceEqDiff,if_true,if_false];done)|(refine po_fin (m:=3) ?_ ?_ ?_<;>simp only[En.get,Hroot,Nat.reduceEqDiff,if_true,if_false];done)|(refine po_fin (m:=4) ?_ ?_ ?_<;>simp only[En.get,Hroot,Nat.reduceEqDiff,if_true,if_false];done)|(refine po_fin (m:=5) ?_ ?_ ?_<;>simp only[En.get,Hroot,Nat.reduceEqDiff,if_true,if_false];done)|(refine po_fin (m:=6) ?_ ?_ ?_<;>simp only[En.get,Hroot,Nat.reduceEqDiff,if_true,if_false];done)|(refine po_fin (m:=7) ?_ ?_ ?_<;>simp only[En.get,Hroot,Nat.reduceEqDiff,if_true,if_false];done)|trace_state
def kyOk (s n e x y:List UInt8):Prop:=s.length≤16777216∧n.length≤16777216∧e.length≤16777216∧x.length≤16777216∧y.length≤16777216
def LSeh:FuncId→List V→List (Nat×Ob)→Nat→Option CallH:=fun f args h nx=>
 if f=8 then match args with
  |[v]=>match (fz h v).1 with
   | .st [.val (.int .i64 kty), .val (.int .i64 crv), .by s, .by n, .by e, .by x, .by y]=>some ⟨[kyOk s n e x y],[true],[],lenV kty crv nx s.length n.length e.length x.length y.length,lenH nx s n e x y,nx+6⟩
   |_=>none
  |_=>none
 else none
theorem LSeh_ok (J:Inv) (f:FuncId) (args:List V) (h:List (Nat×Ob)) (nx:Nat) (c:CallH) (hc:LSeh f args h nx=some c) (hl:AllP c.l):FnH Tryz.prog J f (mixA h c.bw args).1 c.pre nx c.res c.post c.nx:=by
 unfold LSeh at hc
 split at hc
 ·rename_i hf;subst hf
  split at hc
  ·rename_i v
   split at hc
   ·rename_i kty crv s n e x y hv
    obtain rfl:=Option.some.inj hc
    have q:kyOk s n e x y:=hl _ (by simp)
    obtain⟨q1,q2,q3,q4,q5⟩:=q
    show FnH _ _ _ [(fz h v).1] _ _ _ _ _
    rw[hv]
    exact lent_own J nx kty crv s n e x y q1 q2 q3 q4 q5
   ·exact absurd hc (by simp)
  ·exact absurd hc (by simp)
 ·exact absurd hc (by simp)
def LSe (J:Inv) (nx:Nat):Sig:=⟨J,sdf,S0f,LSeh,nx⟩
theorem LSe_ok (J:Inv) (nx:Nat):SigOk Tryz.prog (LSe J nx):=⟨fun _ _ _ _ _ h=>absurd h (by simp[LSe,S0f]),LSeh_ok J⟩
theorem copied_own (J:Inv) (nx:Nat) (kty crv:Int) (s n e x y:List UInt8) (hk:kyOk s n e x y):FnH Tryz.prog J 16 [keyV kty crv s n e x y] [] nx (lenV kty crv nx s.length n.length e.length x.length y.length) (lenH nx s n e x y) (nx+6):=by
 refine fnC Tryz.func16 rfl (by kernel_rfl) (LSe_ok J nx) rfl ?_
 unfold Tryz.f16
 simp only[bQ,reduceLeDiff,reduceEqDiff,reduceLT,reduceAdd,↓reduceIte,reduceCtorEq,LSe,S0f,LSeh,keyV,lenV,lenH]
 refine⟨hk,RenC.intro [(nx,nx+2),(nx+1,nx+3),(nx+2,nx+4),(nx+3,nx+5),(nx+4,nx+6),(nx+5,nx+1)] ⟨[(2, .op (nx+5) 0)],(nx+5, .box 26 (lenV kty crv nx s.length n.length e.length x.length y.length))::lenH nx s n e x y,nx+6⟩ ?_ ?_⟩
 ·have n1: ∀j,(nx+j<nx)=False:=fun j=>by simp
  have n0:(nx<nx)=False:=by simp
  simp only[bQ,reduceEqDiff,↓reduceIte,reduceCtorEq,lenV,lenH,n0,n1]
  simp
 ·simp only[bQ,reduceLeDiff,reduceEqDiff,reduceLT,reduceAdd,↓reduceIte,reduceCtorEq,lenV,lenH]
  exact Nat.le_refl _
def LSfh:FuncId→List V→List (Nat×Ob)→Nat→Option CallH:=fun f args h nx=>
 if f=14 then match args with
  |[.st [.val (.int .i64 kty), .val (.int .i64 crv), .vw (.r k) 1 0 n0, .vw (.r k1) 1 0 n1, .vw (.r k2) 1 0 n2, .vw (.r k3) 1 0 n3, .vw (.r k4) 1 0 n4], .st [.val (.int .i64 kty'), .val (.int .i64 crv'), .by s, .by n, .by e, .by x, .by y]]=>some ⟨[kty=kty',crv=crv',k1=k+1,k2=k+2,k3=k+3,k4=k+4,n0=s.length,n1=n.length,n2=e.length,n3=x.length,n4=y.length,k+4<nx,kyOk s n e x y],[],lenH k s n e x y, .bb true,lenH k s n e x y,nx⟩
  |_=>none
 else if f=15 then match args with
  |[.st [.val (.int .i64 _), .val (.int .i64 _), .vw (.r k) 1 0 n0, .vw (.r k1) 1 0 n1, .vw (.r k2) 1 0 n2, .vw (.r k3) 1 0 n3, .vw (.r k4) 1 0 n4]]=>match Hroot h k,Hroot h k1,Hroot h k2,Hroot h k3,Hroot h k4 with
   |some (.row _ (.by s)),some (.row _ (.by n)),some (.row _ (.by e)),some (.row _ (.by x)),some (.row _ (.by y))=>some ⟨[k1=k+1,k2=k+2,k3=k+3,k4=k+4,(s.take n0).length=n0,(n.take n1).length=n1,(e.take n2).length=n2,(x.take n3).length=n3,(y.take n4).length=n4,k+4<nx,kyOk (s.take n0) (n.take n1) (e.take n2) (x.take n3) (y.take n4)],[],lenH k (s.take n0) (n.take n1) (e.take n2) (x.take n3) (y.take n4), .tu [],lenH k (ovB (s.take n0)) (ovB (n.take n1)) (ovB (e.take n2)) (ovB (x.take n3)) (ovB (y.take n4)),nx⟩
   |_,_,_,_,_=>none
  |_=>none
 else if f=16 then match args with
  |[v]=>match (fz h v).1 with
   | .st [.val (.int .i64 kty), .val (.int .i64 crv), .by s, .by n, .by e, .by x, .by y]=>some ⟨[kyOk s n e x y],[true],[],lenV kty crv nx s.length n.length e.length x.length y.length,lenH nx s n e x y,nx+6⟩
   |_=>none
  |_=>none
 else LSeh f args h nx
theorem LSfh_ok (J:Inv) (f:FuncId) (args:List V) (h:List (Nat×Ob)) (nx:Nat) (c:CallH) (hc:LSfh f args h nx=some c) (hl:AllP c.l):FnH Tryz.prog J f (mixA h c.bw args).1 c.pre nx c.res c.post c.nx:=by
 unfold LSfh at hc
 split at hc
 ·rename_i hf;subst hf
  split at hc
  ·rename_i kty crv k n0 k1 n1 k2 n2 k3 n3 k4 n4 kty' crv' s n e x y
   obtain rfl:=Option.some.inj hc
   have a1:kty=kty':=hl _ (by simp)
   have a2:crv=crv':=hl _ (by simp)
   have a3:k1=k+1:=hl _ (by simp)
   have a4:k2=k+2:=hl _ (by simp)
   have a5:k3=k+3:=hl _ (by simp)
   have a6:k4=k+4:=hl _ (by simp)
   have b0:n0=s.length:=hl _ (by simp)
   have b1:n1=n.length:=hl _ (by simp)
   have b2:n2=e.length:=hl _ (by simp)
   have b3:n3=x.length:=hl _ (by simp)
   have b4:n4=y.length:=hl _ (by simp)
   have hk:k+4<nx:=hl _ (by simp)
   obtain⟨q1,q2,q3,q4,q5⟩:kyOk s n e x y:=hl _ (by simp)
   subst a1 a2 a3 a4 a5 a6 b0 b1 b2 b3 b4
   exact still_own J k nx hk kty crv s n e x y q1 q2 q3 q4 q5
  ·exact absurd hc (by simp)
 ·split at hc
  ·rename_i hf;subst hf
   split at hc
   ·rename_i kty crv k n0 k1 n1 k2 n2 k3 n3 k4 n4
    split at hc
    ·rename_i _ s _ n _ e _ x _ y _ _ _ _ _
     obtain rfl:=Option.some.inj hc
     have a3:k1=k+1:=hl _ (by simp)
     have a4:k2=k+2:=hl _ (by simp)
     have a5:k3=k+3:=hl _ (by simp)
     have a6:k4=k+4:=hl _ (by simp)
     have b0:(s.take n0).length=n0:=hl (_=n0) (by simp)
     have b1:(n.take n1).length=n1:=hl (_=n1) (by simp)
     have b2:(e.take n2).length=n2:=hl (_=n2) (by simp)
     have b3:(x.take n3).length=n3:=hl (_=n3) (by simp)
     have b4:(y.take n4).length=n4:=hl (_=n4) (by simp)
     have hk:k+4<nx:=hl _ (by simp)
     obtain⟨q1,q2,q3,q4,q5⟩:kyOk (s.take n0) (n.take n1) (e.take n2) (x.take n3) (y.take n4):=hl _ (by simp)
     subst a3 a4 a5 a6
     have hp:=over_own J k nx hk kty crv (s.take n0) (n.take n1) (e.take n2) (x.take n3) (y.take n4) q1 q2 q3 q4 q5
     unfold lenV at hp
     rw[b0,b1,b2,b3,b4] at hp
     exact hp
    ·exact absurd hc (by simp)
   ·exact absurd hc (by simp)
  ·split at hc
   ·rename_i hf;subst hf
    split at hc
    ·rename_i v
     split at hc
     ·rename_i kty crv s n e x y hv
      obtain rfl:=Option.some.inj hc
      have q:kyOk s n e x y:=hl _ (by simp)
      show FnH _ _ _ [(fz h v).1] _ _ _ _ _
      rw[hv]
      exact copied_own J nx kty crv s n e x y q
     ·exact absurd hc (by simp)
    ·exact absurd hc (by simp)
   ·exact LSeh_ok J f args h nx c hc hl
def cutS:Nat→Code→Code
 |0,_=> .skip
 |n+1, .seq a b=> .seq a (cutS n b)
 |_+1,c=>c
def resS:Nat→Code→Code
 |0,c=>c
 |n+1, .seq _ b=>resS n b
 |_+1,_=> .skip
def seqS:Nat→Code→Bool
 |0,_=>true
 |n+1, .seq _ b=>seqS n b
 |_+1,_=>false
theorem wp_cut {P:Program} {x:Fx} {G:Sig} {R Kr:S→Prop} {Q:Exit→Act→World→Prop} (hG:SigOk P G) (hJ:x.J=G.J) (hb: ∀m:Nm,G.b≤m.root→x.C.O m=none∧x.C.W m=none) (hm:P.follows .mixedOrders=true) (hKr: ∀s F a w,Kr s→Sat x s F a w→Q .ret a w)
  (n:Nat): ∀(c:Code) (s:S) (F:Cx) (a:Act) (w:World),seqS n c=true→okC x.n (cutS n c)=true→vg P G (cutS n c) s ⟨R,Kr,[]⟩→Sat x s F a w→(∀s F a w,R s→Sat x s F a w→(resS n c).wp P Q a w)→c.wp P Q a w:=by
 induction n with
 |zero=>exact fun c s F a w _ _ hv hs hR=>hR s F a w hv hs
 |succ n ih=>
  intro c s F a w hq ho hv hs hR
  cases c
  case seq c d=>
   have ho2:okC x.n c=true∧okC x.n (cutS n d)=true:=by simpa only[cutS,okC,Bool.and_eq_true] using ho
   exact wp_seq (vg_ok hG hJ hb hm c s _ _ F a w ho2.1 hv ⟨fun s1 F1 a1 w1 h1 hs1=>ih d s1 F1 a1 w1 hq ho2.2 h1 hs1 hR,hKr,fun _ _ h=>by simp[exGet] at h⟩ hs)
  all_goals simp[seqS] at hq
structure PrO (k:Ky):Prop where
 ok:k.Ok
 g:k.good=true
 t:k.kty≠1
theorem PrO.pr {k:Ky} (h:PrO k):k.pr.2=0:=(back k h.g h.t).1
theorem printO_own (J:Inv) (hJ: ∀w F,J.I w F→JV.I w F) (hE:EdT J) (k:Ky) (h:PrO k) (nx:Nat):FnH Tryz.prog J 9 [k.V] [] nx (.tu [.ro (.r nx), .i 0]) [(nx, .row 5 (.by k.pr.1))] (nx+40):=by
 obtain⟨hk,hg,h1⟩:=h
 have h0:k.pr.2=0:=(back k hg h1).1
 by_cases h2:k.kty=2
 ·have e:k.pr=printF (elemF algR (printF (innL k.n k.e)).1):=by unfold Ky.pr Ky.els;rw[if_pos ⟨hg,h1⟩,if_pos h2]
  have:=sprintO2_own J hJ hE k hk h2 hg nx
  rw[←e,h0] at this;exact this
 by_cases h3:k.kty=3
 ·have e:k.pr=printF (elemF (algE k.crv) (4::(k.x++k.y))):=by unfold Ky.pr Ky.els;rw[if_pos ⟨hg,h1⟩,if_neg h2,if_pos h3]
  have:=sprintO3_own J hJ hE k hk h3 hg nx
  rw[←e,h0] at this;exact this
 by_cases h4:k.kty=4
 ·have e:k.pr=printF (elemF algO k.x):=by unfold Ky.pr Ky.els;rw[if_pos ⟨hg,h1⟩,if_neg h2,if_neg h3]
  have:=sprintO4_own J hJ hE k hk h4 hg nx
  rw[←e,h0] at this;exact this
 unfold Ky.good goodK at hg
 rw[if_neg h1,if_neg h2,if_neg h3,if_neg h4] at hg
 cases hg
theorem printN_own (J:Inv) (hJ: ∀w F,J.I w F→JV.I w F) (hE:EdT J) (k:Ky) (hk:k.Ok) (h:k.good=false∨k.kty=1) (nx:Nat):FnH Tryz.prog J 9 [k.V] [] nx (.tu [.val (.slice none 0 0), .i 90]) [] (nx+40):=by
 have hb:k.good=false∨(k.good=true∧(k.kty==2)=false∧(k.kty==3)=false∧(k.kty==4)=false):=by
  cases hg:k.good
  ·exact .inl rfl
  ·rcases h with h|h
   ·rw[hg] at h;cases h
   ·rw[h];exact .inr ⟨rfl,rfl,rfl,rfl⟩
 clear h
 rcases k with ⟨kty,crv,s,n,e,x,y⟩
 simp only at hb
 refine fnC Tryz.func9 rfl (by kernel_rfl) (PO_ok J hJ hE nx) rfl ?_
 unfold Tryz.f9
 rcases hb with hg|⟨hg,e2,e3,e4⟩
 ·simp only[↓bD,bQ,reduceEqDiff,reduceLT,reduceAdd,↓reduceIte,PO,POaf,Ky.V,keyV,cK,keyW,byN,hg]
  refine⟨hk,RenC.skip ?_⟩
  simp only[bQ,reduceLeDiff,reduceEqDiff,reduceAdd,↓reduceIte]
  omega
 ·simp only[↓bD,bQ,reduceEqDiff,reduceLT,reduceAdd,↓reduceIte,PO,POaf,Ky.V,keyV,cK,keyW,byN,hg,e2,e3,e4]
  refine⟨hk,RenC.skip ?_⟩
  simp only[bQ,reduceLeDiff,reduceEqDiff,reduceAdd,↓reduceIte]
  omega
def WPh (o:Bool):FuncId→List V→List (Nat×Ob)→Nat→Option CallH:=fun f args h nx=>
 if f=9 then match args with
  |[v]=>match (fz h v).1 with
   | .st [.val (.int .i64 a), .val (.int .i64 c), .by s, .by n, .by e, .by x, .by y]=>match o with
    |true=>some ⟨[PrO ⟨a,c,s,n,e,x,y⟩],[true],[], .tu [.ro (.r nx), .i 0],[(nx, .row 5 (.by (Ky.mk a c s n e x y).pr.1))],nx+40⟩
    |false=>some ⟨[(Ky.mk a c s n e x y).Ok,(Ky.mk a c s n e x y).good=false∨a=1],[true],[], .tu [.val (.slice none 0 0), .i 90],[],nx+40⟩
   |_=>none
  |_=>none
 else LSfh f args h nx
theorem WPh_ok (J:Inv) (hJ: ∀w F,J.I w F→JV.I w F) (hE:EdT J) (o:Bool) (f:FuncId) (args:List V) (h:List (Nat×Ob)) (nx:Nat) (c:CallH) (hc:WPh o f args h nx=some c) (hl:AllP c.l):FnH Tryz.prog J f (mixA h c.bw args).1 c.pre nx c.res c.post c.nx:=by
 unfold WPh at hc
 split at hc
 ·rename_i hf;subst hf
  split at hc
  ·rename_i v
   split at hc
   ·rename_i a c s n e x y hv
    split at hc
    ·obtain rfl:=Option.some.inj hc
     show FnH _ _ _ [(fz h v).1] _ _ _ _ _
     rw[hv]
     exact printO_own J hJ hE ⟨a,c,s,n,e,x,y⟩ (hl _ (by simp)) nx
    ·obtain rfl:=Option.some.inj hc
     show FnH _ _ _ [(fz h v).1] _ _ _ _ _
     rw[hv]
     exact printN_own J hJ hE ⟨a,c,s,n,e,x,y⟩ (hl _ (by simp)) (hl (_∨_) (by simp)) nx
   ·cases hc
  ·cases hc
 ·exact LSfh_ok J f args h nx c hc hl
theorem sameN_fn (J:Inv) (b:List UInt8):Fn Tryz.prog J 13 false [.val (.slice none 0 0), .by b] (.bb (([]:List UInt8)==b)):=by
 have h0:=sameBytes_fn J [] b (Nat.zero_le _)
 refine⟨h0.1,fun w F vs hI hF hlen hvs=>h0.2 w F vs hI hF hlen fun i v x hi hx=> ?_⟩
 match i,hi with
 |0,hi=>
  obtain rfl:V.by []=v:=by simpa using hi
  exact byN_rep (v:= .val (.slice none 0 0)) rfl (hvs 0 _ x rfl hx)
 |j+1,hi=>exact hvs (j+1) v x hi hx
def cSb:List V→CR
 |[.by a, .by b]=>some ([a.length≤140737488355328],false, .bb (a==b))
 |[.val (.slice none 0 0), .by b]=>some ([],false, .bb (([]:List UInt8)==b))
 |_=>none
theorem cSb_ok (J:Inv):EntAt Tryz.prog J 13 (fun r=>r) cSb:=fun args l fr r hk hl=>by
 unfold cSb at hk
 split at hk
 ·obtain⟨rfl,rfl,rfl⟩:=jsome_tri hk
  exact sameBytes_fn J _ _ (hl _ (by simp))
 ·obtain⟨rfl,rfl,rfl⟩:=jsome_tri hk
  exact sameN_fn J _
 ·cases hk
def LWqf:FuncId→List V→CR:=fun f args=>tab [(10,cK fun k=>cF [k.Ok] false (.tu [.str k.pem.1, .i k.pem.2])),
 (11,cK fun k=>cF [k.Ok] false (.tu [.by k.pr.1, .i k.pr.2])),
 (12,cK fun k=>cF [k.Ok] false (.tu [.str k.pem.1, .i k.pem.2]))] noF f args
def LWq (J:Inv):Sig:=⟨J,sdf,LWqf,noH,0⟩
theorem LWq_ok (J:Inv) (hJ: ∀w F,J.I w F→JV.I w F) (hE:EdT J):SigOk Tryz.prog (LWq J):= .plain (tab_ok (.c (.k fun k=> .z fun⟨c0,_⟩=>spem_fn J hJ hE k c0)<|
 .c (.k fun k=> .z fun⟨c0,_⟩=>rprint_fn J k c0)<|
 .c (.k fun k=> .z fun⟨c0,_⟩=>rpem_fn J k c0)<| .n) noF_ok)
def LWsf (g:FuncId→List V→CR):FuncId→List V→CR:=fun f args=>tab [(13,cSb)] g f args
def LW1 (J:Inv) (o:Bool):Sig:=⟨J,sdf,LWsf LWqf,WPh o,0⟩
theorem LW1_ok (J:Inv) (hJ: ∀w F,J.I w F→JV.I w F) (hE:EdT J) (o:Bool):SigOk Tryz.prog (LW1 J o):=⟨tab_ok (.c (cSb_ok J) .n) (LWq_ok J hJ hE).1,WPh_ok J hJ hE o⟩
end Go.Proofs.YtfengpdaocgcnaaGreatDoor
