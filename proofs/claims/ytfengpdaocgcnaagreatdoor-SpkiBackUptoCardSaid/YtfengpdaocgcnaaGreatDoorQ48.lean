/- spoil of a key whose parts are memory of its own. SpkiBack: what it computes. -/
import Derived.Test.YtfengpdaocgcnaaGreatDoorQ47
import Derived.Test.YtfengpdaocgcnaaGreatDoorQ43
import Derived.Test.YtfengpdaocgcnaaGreatDoorQ45
namespace Go.Proofs.YtfengpdaocgcnaaGreatDoor
open Nat (reduceMul reduceLeDiff reduceEqDiff reduceLT reduceAdd reduceSub reduceDiv)
open Int (reduceToNat reducePow)
open Go.RowKit
set_option linter.unusedSimpArgs false
set_option maxRecDepth 100000
theorem wp_three {P:Program} {x:Fx} {F:Cx} {w:World} {a:Act} {s:S} {G:Sig} {c1 c2 c3 c4:Code} {R:S→Prop} {Q:Exit→Act→World→Prop} (hG:SigOk P G) (hJ:x.J=G.J) (hb: ∀m:Nm,G.b≤m.root→x.C.O m=none∧x.C.W m=none) (hm:P.follows .mixedOrders=true) (ho:okC x.n (.seq c1 (.seq c2 c3))=true)
  (hv:vg P G (.seq c1 (.seq c2 c3)) s ⟨R,fun _=>False,[]⟩) (hs:Sat x s F a w) (hR: ∀s F a w,R s→Sat x s F a w→c4.wp P Q a w):(Code.seq c1 (.seq c2 (.seq c3 c4))).wp P Q a w:=by
 simp only[okC,Bool.and_eq_true] at ho
 refine wp_seq (vg_ok hG hJ hb hm c1 s _ _ F a w ho.1 hv ⟨fun s1 F1 a1 w1 h1 hs1=> ?_,fun _ _ _ _ h=>h.elim,fun _ _ h=>by simp[exGet] at h⟩ hs)
 refine wp_seq (vg_ok hG hJ hb hm c2 s1 _ _ F1 a1 w1 ho.2.1 h1 ⟨fun s2 F2 a2 w2 h2 hs2=> ?_,fun _ _ _ _ h=>h.elim,fun _ _ h=>by simp[exGet] at h⟩ hs1)
 refine wp_seq (vg_ok hG hJ hb hm c3 s2 _ _ F2 a2 w2 ho.2.2 h2 ⟨fun s3 F3 a3 w3 h3 hs3=> ?_,fun _ _ _ _ h=>h.elim,fun _ _ h=>by simp[exGet] at h⟩ hs2)
 exact hR s3 F3 a3 w3 h3 hs3
theorem spoil2_own (J:Inv) (kty crv:Int) (n e:List UInt8) (hn:n.length≤1073741824) (he:e.length≤1073741824):FnH Tryz.prog J 22 [koV kty crv [none,some 0,some 1,none,none]] [(0, .row 5 (.by n)),(1, .row 5 (.by e))] 2 (.bb true) [] 2:=by
 refine fnB_wp Tryz.func22 pB_eq (by kernel_rfl) (Nat.le_of_ble_eq_true (by kernel_rfl)) fun w F a Q hs hQ=> ?_
 refine wp_three (G:=SG J 2) (SG_ok J 2) rfl (fun _ _=>⟨rfl,rfl⟩) (by kernel_rfl) (by kernel_rfl) (R:=fun s'=>Sub s' ⟨[(3, .op 3 0),(4, .op 4 0)],[(3, .box 70 (.st [.val (.slice none 0 0), .ro (.r 0), .ro (.r 1), .val (.slice none 0 0), .val (.slice none 0 0)])),(4, .box 70 (.st [.val (.slice none 0 0), .val (.slice none 0 0), .val (.slice none 0 0), .val (.slice none 0 0), .val (.slice none 0 0)])),(0, .row 5 (.by n)),(1, .row 5 (.by e))],5⟩) ?_ hs fun s1 F1 a1 w1 hsub hs1=> ?_
 ·simp only[pB,sL,sR,Tryz.f22,Option.getD_some]
  simp only[bQ,reduceMul,reduceLeDiff,reduceEqDiff,reduceLT,reduceAdd,↓reduceIte,reduceCtorEq,SG,koV]
 ·obtain⟨F2,hs2⟩:=(hs1.sub hsub).adsub (ad:=[.bx 3 0 5 (.by []), .bx 3 3 5 (.by []), .bx 3 4 5 (.by [])]) (t:=⟨[(3, .op 3 0),(4, .op 4 0)],[(3, .box 70 (.st [.ro (.r 5), .ro (.r 0), .ro (.r 1), .ro (.r 6), .ro (.r 7)])),(4, .box 70 (.st [.val (.slice none 0 0), .val (.slice none 0 0), .val (.slice none 0 0), .val (.slice none 0 0), .val (.slice none 0 0)])),(0, .row 5 (.by n)),(1, .row 5 (.by e)),(5, .row 5 (.by [])),(6, .row 5 (.by [])),(7, .row 5 (.by []))],8⟩) (by
   simp only[bQ,reduceLeDiff,reduceEqDiff,reduceLT,reduceAdd,↓reduceIte,reduceCtorEq])
  obtain⟨F3,hs3⟩:=hs2.ren (b:=0) (fun _ _=>⟨rfl,rfl⟩) (σ:=[(0,3),(1,4),(2,5),(3,0),(4,1),(5,6),(6,7)]) (t:=spS1 [] n e [] []) (by
   simp only[bQ,reduceLeDiff,reduceEqDiff,reduceLT,↓reduceIte,reduceCtorEq,spS1,spS,spH])
  exact sp_rest J rfl rfl (by decide) hn he (by decide) (by decide) hs3 hQ
theorem spoil3_own (J:Inv) (kty crv:Int) (x y:List UInt8) (hx:x.length≤1073741824) (hy:y.length≤1073741824):FnH Tryz.prog J 22 [koV kty crv [none,none,none,some 0,some 1]] [(0, .row 5 (.by x)),(1, .row 5 (.by y))] 2 (.bb true) [] 2:=by
 refine fnB_wp Tryz.func22 pB_eq (by kernel_rfl) (Nat.le_of_ble_eq_true (by kernel_rfl)) fun w F a Q hs hQ=> ?_
 refine wp_three (G:=SG J 2) (SG_ok J 2) rfl (fun _ _=>⟨rfl,rfl⟩) (by kernel_rfl) (by kernel_rfl) (R:=fun s'=>Sub s' ⟨[(3, .op 3 0),(4, .op 4 0)],[(3, .box 70 (.st [.val (.slice none 0 0), .val (.slice none 0 0), .val (.slice none 0 0), .ro (.r 0), .ro (.r 1)])),(4, .box 70 (.st [.val (.slice none 0 0), .val (.slice none 0 0), .val (.slice none 0 0), .val (.slice none 0 0), .val (.slice none 0 0)])),(0, .row 5 (.by x)),(1, .row 5 (.by y))],5⟩) ?_ hs fun s1 F1 a1 w1 hsub hs1=> ?_
 ·simp only[pB,sL,sR,Tryz.f22,Option.getD_some]
  simp only[bQ,reduceMul,reduceLeDiff,reduceEqDiff,reduceLT,reduceAdd,↓reduceIte,reduceCtorEq,SG,koV]
 ·obtain⟨F2,hs2⟩:=(hs1.sub hsub).adsub (ad:=[.bx 3 0 5 (.by []), .bx 3 1 5 (.by []), .bx 3 2 5 (.by [])]) (t:=⟨[(3, .op 3 0),(4, .op 4 0)],[(3, .box 70 (.st [.ro (.r 5), .ro (.r 6), .ro (.r 7), .ro (.r 0), .ro (.r 1)])),(4, .box 70 (.st [.val (.slice none 0 0), .val (.slice none 0 0), .val (.slice none 0 0), .val (.slice none 0 0), .val (.slice none 0 0)])),(0, .row 5 (.by x)),(1, .row 5 (.by y)),(5, .row 5 (.by [])),(6, .row 5 (.by [])),(7, .row 5 (.by []))],8⟩) (by
   simp only[bQ,reduceLeDiff,reduceEqDiff,reduceLT,reduceAdd,↓reduceIte,reduceCtorEq])
  obtain⟨F3,hs3⟩:=hs2.ren (b:=0) (fun _ _=>⟨rfl,rfl⟩) (σ:=[(0,3),(1,4),(2,5),(3,6),(4,7),(5,0),(6,1)]) (t:=spS1 [] [] [] x y) (by
   simp only[bQ,reduceLeDiff,reduceEqDiff,reduceLT,↓reduceIte,reduceCtorEq,spS1,spS,spH])
  exact sp_rest J rfl rfl (by decide) (by decide) (by decide) hx hy hs3 hQ
theorem spoil4_own (J:Inv) (kty crv:Int) (x:List UInt8) (hx:x.length≤1073741824):FnH Tryz.prog J 22 [koV kty crv [none,none,none,some 0,none]] [(0, .row 5 (.by x))] 1 (.bb true) [] 1:=by
 refine fnB_wp Tryz.func22 pB_eq (by kernel_rfl) (Nat.le_of_ble_eq_true (by kernel_rfl)) fun w F a Q hs hQ=> ?_
 refine wp_three (G:=SG J 1) (SG_ok J 1) rfl (fun _ _=>⟨rfl,rfl⟩) (by kernel_rfl) (by kernel_rfl) (R:=fun s'=>Sub s' ⟨[(3, .op 2 0),(4, .op 3 0)],[(2, .box 70 (.st [.val (.slice none 0 0), .val (.slice none 0 0), .val (.slice none 0 0), .ro (.r 0), .val (.slice none 0 0)])),(3, .box 70 (.st [.val (.slice none 0 0), .val (.slice none 0 0), .val (.slice none 0 0), .val (.slice none 0 0), .val (.slice none 0 0)])),(0, .row 5 (.by x))],4⟩) ?_ hs fun s1 F1 a1 w1 hsub hs1=> ?_
 ·simp only[pB,sL,sR,Tryz.f22,Option.getD_some]
  simp only[bQ,reduceMul,reduceLeDiff,reduceEqDiff,reduceLT,reduceAdd,↓reduceIte,reduceCtorEq,SG,koV]
 ·obtain⟨F2,hs2⟩:=(hs1.sub hsub).adsub (ad:=[.bx 2 0 5 (.by []), .bx 2 1 5 (.by []), .bx 2 2 5 (.by []), .bx 2 4 5 (.by [])]) (t:=⟨[(3, .op 2 0),(4, .op 3 0)],[(2, .box 70 (.st [.ro (.r 4), .ro (.r 5), .ro (.r 6), .ro (.r 0), .ro (.r 7)])),(3, .box 70 (.st [.val (.slice none 0 0), .val (.slice none 0 0), .val (.slice none 0 0), .val (.slice none 0 0), .val (.slice none 0 0)])),(0, .row 5 (.by x)),(4, .row 5 (.by [])),(5, .row 5 (.by [])),(6, .row 5 (.by [])),(7, .row 5 (.by []))],8⟩) (by
   simp only[bQ,reduceLeDiff,reduceEqDiff,reduceLT,reduceAdd,↓reduceIte,reduceCtorEq])
  obtain⟨F3,hs3⟩:=hs2.ren (b:=0) (fun _ _=>⟨rfl,rfl⟩) (σ:=[(0,2),(1,3),(2,4),(3,5),(4,6),(5,0),(6,7)]) (t:=spS1 [] [] [] x []) (by
   simp only[bQ,reduceLeDiff,reduceEqDiff,reduceLT,↓reduceIte,reduceCtorEq,spS1,spS,spH])
  exact sp_rest J rfl rfl (by decide) (by decide) (by decide) hx (by decide) hs3 hQ
theorem spoil2_at (J:Inv) (kty crv:Int) (n e:List UInt8) (hn:n.length≤1073741824) (he:e.length≤1073741824) (i j nx:Nat) (h:i≠j):FnH Tryz.prog J 22 [koV kty crv [none,some i,some j,none,none]] [(i, .row 5 (.by n)),(j, .row 5 (.by e))] nx (.bb true) [] nx:=by
 have h1:(i=j)=False:=eq_false h
 have h2:(j=i)=False:=eq_false (Ne.symm h)
 refine FnH.to [(0,i),(1,j)] (spoil2_own J kty crv n e hn he) ?_ rfl
 simp only[bQ,reduceLeDiff,reduceLT,↓reduceIte,reduceCtorEq,koV,h1,h2]
 exact⟨.inl (Nat.zero_le _), .inl (Nat.zero_le _)⟩
theorem spoil3_at (J:Inv) (kty crv:Int) (n e:List UInt8) (hn:n.length≤1073741824) (he:e.length≤1073741824) (i j nx:Nat) (h:i≠j):FnH Tryz.prog J 22 [koV kty crv [none,none,none,some i,some j]] [(i, .row 5 (.by n)),(j, .row 5 (.by e))] nx (.bb true) [] nx:=by
 have h1:(i=j)=False:=eq_false h
 have h2:(j=i)=False:=eq_false (Ne.symm h)
 refine FnH.to [(0,i),(1,j)] (spoil3_own J kty crv n e hn he) ?_ rfl
 simp only[bQ,reduceLeDiff,reduceLT,↓reduceIte,reduceCtorEq,koV,h1,h2]
 exact⟨.inl (Nat.zero_le _), .inl (Nat.zero_le _)⟩
theorem spoil4_at (J:Inv) (kty crv:Int) (n:List UInt8) (hn:n.length≤1073741824) (i nx:Nat):FnH Tryz.prog J 22 [koV kty crv [none,none,none,some i,none]] [(i, .row 5 (.by n))] nx (.bb true) [] nx:=by
 refine FnH.to [(0,i)] (spoil4_own J kty crv n hn) ?_ rfl
 simp only[bQ,reduceLeDiff,reduceLT,↓reduceIte,koV]
 exact .inl (Nat.zero_le _)
def spT:FuncId→List V→List (Nat×Ob)→Nat→Option CallH:=fun f args h nx=>
 if f=22 then match args with
  |[.st [.val (.int .i64 _), .val (.int .i64 _), .val (.slice none 0 0), .ro (.r i), .ro (.r j), .val (.slice none 0 0), .val (.slice none 0 0)]]=>match Hroot h i,Hroot h j with
   |some (.row ti (.by n)),some (.row tj (.by e))=>some ⟨[ti=5,tj=5,i≠j,n.length≤1073741824,e.length≤1073741824],[],[(i, .row ti (.by n)),(j, .row tj (.by e))], .bb true,[],nx+1⟩
   |_,_=>none
  |[.st [.val (.int .i64 _), .val (.int .i64 _), .val (.slice none 0 0), .val (.slice none 0 0), .val (.slice none 0 0), .ro (.r i), .ro (.r j)]]=>match Hroot h i,Hroot h j with
   |some (.row ti (.by n)),some (.row tj (.by e))=>some ⟨[ti=5,tj=5,i≠j,n.length≤1073741824,e.length≤1073741824],[],[(i, .row ti (.by n)),(j, .row tj (.by e))], .bb true,[],nx+1⟩
   |_,_=>none
  |[.st [.val (.int .i64 _), .val (.int .i64 _), .val (.slice none 0 0), .val (.slice none 0 0), .val (.slice none 0 0), .ro (.r i), .val (.slice none 0 0)]]=>match Hroot h i with
   |some (.row ti (.by n))=>some ⟨[ti=5,n.length≤1073741824],[],[(i, .row ti (.by n))], .bb true,[],nx+1⟩
   |_=>none
  |_=>none
 else none
theorem spT_ok (J:Inv) (f:FuncId) (args:List V) (h:List (Nat×Ob)) (nx:Nat) (c:CallH) (hc:spT f args h nx=some c) (hl:AllP c.l):FnH Tryz.prog J f (mixA h c.bw args).1 c.pre nx c.res c.post c.nx:=by
 unfold spT at hc
 split at hc
 ·rename_i hf;subst hf
  split at hc
  ·split at hc
   ·rename_i kty crv i j _ _ ti n tj e _ _
    obtain rfl:=Option.some.inj hc
    have h1:ti=5:=hl _ (by simp)
    have h2:tj=5:=hl (tj=5) (by simp)
    have h3:i≠j:=hl _ (by simp)
    have h4:n.length≤1073741824:=hl _ (by simp)
    have h5:e.length≤1073741824:=hl (e.length≤1073741824) (by simp)
    subst h1 h2
    exact(spoil2_at J kty crv n e h4 h5 i j nx h3).more (Nat.le_succ _)
   ·cases hc
  ·split at hc
   ·rename_i kty crv i j _ _ ti n tj e _ _
    obtain rfl:=Option.some.inj hc
    have h1:ti=5:=hl _ (by simp)
    have h2:tj=5:=hl (tj=5) (by simp)
    have h3:i≠j:=hl _ (by simp)
    have h4:n.length≤1073741824:=hl _ (by simp)
    have h5:e.length≤1073741824:=hl (e.length≤1073741824) (by simp)
    subst h1 h2
    exact(spoil3_at J kty crv n e h4 h5 i j nx h3).more (Nat.le_succ _)
   ·cases hc
  ·split at hc
   ·rename_i kty crv i _ ti n _
    obtain rfl:=Option.some.inj hc
    have h1:ti=5:=hl _ (by simp)
    have h4:n.length≤1073741824:=hl _ (by simp)
    subst h1
    exact(spoil4_at J kty crv n h4 i nx).more (Nat.le_succ _)
   ·cases hc
  ·cases hc
 ·cases hc
def LBqf:FuncId→List V→CR:=fun f args=>tab [(17,cF [] false (.bb true))] LKbf f args
def LBq (J:Inv):Sig:=⟨J,sdf,LBqf,noH,0⟩
theorem LBq_ok (J:Inv) (hJ: ∀w F,J.I w F→JV.I w F) (hE:EdT J):SigOk Tryz.prog (LBq J):= .plain (tab_ok (.c (.z fun _=>started_fn J hJ hE)<| .n) (LKb_ok J hJ hE).1)
def LBqh (b0 t0:List UInt8) (k:Ky):FuncId→List V→List (Nat×Ob)→Nat→Option CallH:=fun f args h nx=>if f=22 then spT f args h nx else owT b0 t0 k f args h nx
def LBs (J:Inv) (b0 t0:List UInt8) (k:Ky):Sig:=⟨J,sdf,LBqf,LBqh b0 t0 k,0⟩
theorem LBs_ok (J:Inv) (hJ: ∀w F,J.I w F→JV.I w F) (hE:EdT J) {b0 t0:List UInt8} {k:Ky} (H1: ∀nx,FnH Tryz.prog J 19 [.by b0] [] nx (kyP k nx) (kyH k nx) (nx+12)) (H2: ∀nx,FnH Tryz.prog J 20 [.str t0] [] nx (kyP k nx) (kyH k nx) (nx+12)):SigOk Tryz.prog (LBs J b0 t0 k):=by
 refine⟨(LBq_ok J hJ hE).1,fun f args h nx c hc hl=> ?_⟩
 change LBqh b0 t0 k f args h nx=some c at hc
 unfold LBqh at hc
 split at hc
 ·exact spT_ok J f args h nx c hc hl
 ·exact owT_ok ⟨H1,H2⟩ f args h nx c hc hl
theorem back2_own (J:Inv) (hJ: ∀w F,J.I w F→JV.I w F) (hE:EdT J) (n e:List UInt8) (b0 t0:List UInt8) (hk:(Ky.mk 2 0 [] n e [] []).Ok) (hn:n.length≤1073741824) (he:e.length≤1073741824) (hg:chkC (Ky.mk 2 0 [] n e [] []).good=0) (hp:(Ky.mk 2 0 [] n e [] []).pr=(b0,0)) (ht:(Ky.mk 2 0 [] n e [] []).pem=(t0,0))
  (H1: ∀nx,FnH Tryz.prog J 19 [.by b0] [] nx (kyP (Ky.mk 2 0 [] n e [] []) nx) (kyH (Ky.mk 2 0 [] n e [] []) nx) (nx+12)) (H2: ∀nx,FnH Tryz.prog J 20 [.str t0] [] nx (kyP (Ky.mk 2 0 [] n e [] []) nx) (kyH (Ky.mk 2 0 [] n e [] []) nx) (nx+12)):FnH Tryz.prog J 4 [(Ky.mk 2 0 [] n e [] []).V] [] 0 (.bb true) [] 99:=by
 have hs:skB (Ky.mk 2 0 [] n e [] []) (Ky.mk 2 0 [] n e [] [])=true:=skB_self _
 refine fnJ Tryz.func4 rfl (by kernel_rfl) (LBs_ok J hJ hE H1 H2) rfl ?_
 unfold Tryz.f4
 have b0':((0:Int)==0)=true:=rfl
 have b21:((2:Int)==1)=false:=rfl
 simp only[↓bD,bQ,reduceLeDiff,reduceEqDiff,reduceLT,reduceAdd,↓reduceIte,reduceCtorEq,LBs,LBqf,LKbf,LKaf,LBqh,owT,ownT,ownS,spT,cK,cKK,keyW,byN,Ky.V,keyV,hs,hg,hp,ht,b21,kyP,kyO_2,kyH_2,koV]
 repeat' with_reducible apply And.intro
 all_goals first|exact hk|exact hn|exact he|(intro _;first|exact hk|exact hn|exact he|decide)|(refine RenC.skip ?_;simp only[bQ,reduceLeDiff,↓reduceIte])
theorem back3_own (J:Inv) (hJ: ∀w F,J.I w F→JV.I w F) (hE:EdT J) (c:Int) (x y:List UInt8) (b0 t0:List UInt8) (hk:(Ky.mk 3 c [] [] [] x y).Ok) (hn:x.length≤1073741824) (he:y.length≤1073741824) (hg:chkC (Ky.mk 3 c [] [] [] x y).good=0) (hp:(Ky.mk 3 c [] [] [] x y).pr=(b0,0)) (ht:(Ky.mk 3 c [] [] [] x y).pem=(t0,0))
  (H1: ∀nx,FnH Tryz.prog J 19 [.by b0] [] nx (kyP (Ky.mk 3 c [] [] [] x y) nx) (kyH (Ky.mk 3 c [] [] [] x y) nx) (nx+12)) (H2: ∀nx,FnH Tryz.prog J 20 [.str t0] [] nx (kyP (Ky.mk 3 c [] [] [] x y) nx) (kyH (Ky.mk 3 c [] [] [] x y) nx) (nx+12)):FnH Tryz.prog J 4 [(Ky.mk 3 c [] [] [] x y).V] [] 0 (.bb true) [] 99:=by
 have hs:skB (Ky.mk 3 c [] [] [] x y) (Ky.mk 3 c [] [] [] x y)=true:=skB_self _
 refine fnJ Tryz.func4 rfl (by kernel_rfl) (LBs_ok J hJ hE H1 H2) rfl ?_
 unfold Tryz.f4
 have b0':((0:Int)==0)=true:=rfl
 have b21:((3:Int)==1)=false:=rfl
 simp only[↓bD,bQ,reduceLeDiff,reduceEqDiff,reduceLT,reduceAdd,↓reduceIte,reduceCtorEq,LBs,LBqf,LKbf,LKaf,LBqh,owT,ownT,ownS,spT,cK,cKK,keyW,byN,Ky.V,keyV,hs,hg,hp,ht,b21,kyP,kyO_3,kyH_3,koV]
 repeat' with_reducible apply And.intro
 all_goals first|exact hk|exact hn|exact he|(intro _;first|exact hk|exact hn|exact he|decide)|(refine RenC.skip ?_;simp only[bQ,reduceLeDiff,↓reduceIte])
theorem back4_own (J:Inv) (hJ: ∀w F,J.I w F→JV.I w F) (hE:EdT J) (x:List UInt8) (b0 t0:List UInt8) (hk:(Ky.mk 4 3 [] [] [] x []).Ok) (hn:x.length≤1073741824) (hg:chkC (Ky.mk 4 3 [] [] [] x []).good=0) (hp:(Ky.mk 4 3 [] [] [] x []).pr=(b0,0)) (ht:(Ky.mk 4 3 [] [] [] x []).pem=(t0,0))
  (H1: ∀nx,FnH Tryz.prog J 19 [.by b0] [] nx (kyP (Ky.mk 4 3 [] [] [] x []) nx) (kyH (Ky.mk 4 3 [] [] [] x []) nx) (nx+12)) (H2: ∀nx,FnH Tryz.prog J 20 [.str t0] [] nx (kyP (Ky.mk 4 3 [] [] [] x []) nx) (kyH (Ky.mk 4 3 [] [] [] x []) nx) (nx+12)):FnH Tryz.prog J 4 [(Ky.mk 4 3 [] [] [] x []).V] [] 0 (.bb true) [] 99:=by
 have hs:skB (Ky.mk 4 3 [] [] [] x []) (Ky.mk 4 3 [] [] [] x [])=true:=skB_self _
 refine fnJ Tryz.func4 rfl (by kernel_rfl) (LBs_ok J hJ hE H1 H2) rfl ?_
 unfold Tryz.f4
 have b0':((0:Int)==0)=true:=rfl
 have b21:((4:Int)==1)=false:=rfl
 simp only[↓bD,bQ,reduceLeDiff,reduceEqDiff,reduceLT,reduceAdd,↓reduceIte,reduceCtorEq,LBs,LBqf,LKbf,LKaf,LBqh,owT,ownT,ownS,spT,cK,cKK,keyW,byN,Ky.V,keyV,hs,hg,hp,ht,b21,kyP,kyO_4,kyH_4,koV]
 repeat' with_reducible apply And.intro
 all_goals first|exact hk|exact hn|(intro _;first|exact hk|exact hn|decide)|(refine RenC.skip ?_;simp only[bQ,reduceLeDiff,↓reduceIte])
theorem backw_own (J:Inv) (hJ: ∀w F,J.I w F→JV.I w F) (hE:EdT J) (kty crv:Int) (s n e x y:List UInt8) (hk:(Ky.mk kty crv s n e x y).Ok) (hg:chkC (Ky.mk kty crv s n e x y).good=90) (hp:(Ky.mk kty crv s n e x y).pr=([],90)) (ht:(Ky.mk kty crv s n e x y).pem=([],90)):FnH Tryz.prog J 4 [(Ky.mk kty crv s n e x y).V] [] 0 (.bb true) [] 99:=by
 refine fnJ Tryz.func4 rfl (by kernel_rfl) (LBq_ok J hJ hE) rfl ?_
 unfold Tryz.f4
 have b0':((0:Int)==0)=true:=rfl
 have b90:((90:Int)==0)=false:=rfl
 have b99:((90:Int)==90)=true:=rfl
 have bn:(([]:List UInt8)==[])=true:=rfl
 have bz:(((0:Nat):Int)==0)=true:=rfl
 simp only[↓bD,bQ,reduceEqDiff,reduceLT,reduceAdd,↓reduceIte,reduceCtorEq,LBq,LBqf,LKbf,cK,keyW,byN,Ky.V,keyV,hg,hp,ht,b90,bz]
 repeat' with_reducible apply And.intro
 all_goals first|exact hk|(intro _;first|exact hk|decide)|(refine RenC.skip ?_;simp only[bQ,reduceLeDiff,↓reduceIte])
theorem backo_own (J:Inv) (hJ: ∀w F,J.I w F→JV.I w F) (hE:EdT J) (kty crv:Int) (s n e x y:List UInt8) (hk:(Ky.mk kty crv s n e x y).Ok) (hg:chkC (Ky.mk kty crv s n e x y).good=0) (h1:(kty==1)=true) (hp:(Ky.mk kty crv s n e x y).pr=([],90)) (ht:(Ky.mk kty crv s n e x y).pem=([],90)):FnH Tryz.prog J 4 [(Ky.mk kty crv s n e x y).V] [] 0 (.bb true) [] 99:=by
 refine fnJ Tryz.func4 rfl (by kernel_rfl) (LBq_ok J hJ hE) rfl ?_
 unfold Tryz.f4
 have b0':((0:Int)==0)=true:=rfl
 have b90:((90:Int)==0)=false:=rfl
 have b99:((90:Int)==90)=true:=rfl
 have bn:(([]:List UInt8)==[])=true:=rfl
 have bz:(((0:Nat):Int)==0)=true:=rfl
 simp only[↓bD,bQ,reduceEqDiff,reduceLT,reduceAdd,↓reduceIte,reduceCtorEq,LBq,LBqf,LKbf,cK,keyW,byN,Ky.V,keyV,hg,hp,ht,bz,h1]
 repeat' with_reducible apply And.intro
 all_goals first|exact hk|(intro _;first|exact hk|decide)|(refine RenC.skip ?_;simp only[bQ,reduceLeDiff,↓reduceIte])
theorem SpkiBack_fn (J:Inv) (hJ: ∀w F,J.I w F→JV.I w F) (hE:EdT J) (k:Ky) (hk:k.Ok):Fn Tryz.prog J 4 false [k.V] (.bb true):=by
 refine Fn.of_plain (nx:=99) (post:=[]) ?_ rfl
 by_cases hg:k.good=true
 ·have hc:chkC k.good=0:=by unfold chkC;rw[if_pos hg]
  by_cases h1:k.kty=1
  ·have hp:k.pr=([],90):=by unfold Ky.pr;rw[if_neg fun h=>h.2 h1]
   have ht:k.pem=([],90):=by unfold Ky.pem;rw[hp];exact if_neg (by decide)
   rcases k with ⟨kty,crv,s,n,e,x,y⟩
   exact backo_own J hJ hE _ _ _ _ _ _ _ hk hc (beq_iff_eq.2 h1) hp ht
  ·obtain⟨q1, -⟩:=back k hg h1
   obtain⟨q5, -⟩:=back_pem k hg h1
   obtain⟨HP,HU⟩:=own_of J hJ hE k hg h1 hk
   have hp:k.pr=(k.pr.1,0):=Prod.ext rfl q1
   have ht:k.pem=(k.pem.1,0):=Prod.ext rfl q5
   generalize k.pr.1=b0 at hp HP
   generalize k.pem.1=t0 at ht HU
   obtain⟨k1,k2,k3,k4,k5⟩:=hk
   rcases ky_kinds k hg h1 with ⟨n,e,rfl, -⟩|⟨c,x,y,N,rfl, -⟩|⟨x,rfl, -⟩
   ·exact back2_own J hJ hE n e b0 _ ⟨k1,k2,k3,k4,k5⟩ (Nat.le_trans k2 (by omega)) (Nat.le_trans k3 (by omega)) hc hp ht HP HU
   ·exact back3_own J hJ hE c x y b0 _ ⟨k1,k2,k3,k4,k5⟩ (Nat.le_trans k4 (by omega)) (Nat.le_trans k5 (by omega)) hc hp ht HP HU
   ·exact back4_own J hJ hE x b0 _ ⟨k1,k2,k3,k4,k5⟩ (Nat.le_trans k4 (by omega)) hc hp ht HP HU
 ·have hc:chkC k.good=90:=by unfold chkC;rw[if_neg hg]
  have hp:k.pr=([],90):=by unfold Ky.pr;rw[if_neg fun h=>hg h.1]
  have ht:k.pem=([],90):=by unfold Ky.pem;rw[hp];exact if_neg (by decide)
  rcases k with ⟨kty,crv,s,n,e,x,y⟩
  exact backw_own J hJ hE _ _ _ _ _ _ _ hk hc hp ht
end Go.Proofs.YtfengpdaocgcnaaGreatDoor
