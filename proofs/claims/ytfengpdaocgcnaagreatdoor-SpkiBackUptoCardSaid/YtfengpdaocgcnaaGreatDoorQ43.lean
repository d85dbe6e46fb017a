/- spki.read's answers as memory of one's own. spki.Parse's answers as memory of one's own. spki.Unpem's answers as memory of one's own. -/
import Derived.Test.YtfengpdaocgcnaaGreatDoorQ42
namespace Go.Proofs.YtfengpdaocgcnaaGreatDoor
open Nat (reduceMul reduceLeDiff reduceEqDiff reduceLT reduceAdd reduceSub reduceDiv)
open Int (reduceToNat reducePow)
open Go.RowKit
set_option linter.unusedSimpArgs false
set_option maxRecDepth 100000
def BLh:FuncId→List V→List (Nat×Ob)→Nat→Option CallH:=fun f args _ nx=>
 if f=76 then match args with
  |[.by key]=>some ⟨[rsC (rsaF key).1.n (rsaF key).1.e=0,key=(printF (innL (rsaF key).1.n (rsaF key).1.e)).1],[],[], .tu [koV 2 0 [none,some nx,some (nx+1),none,none], .val .nilIface],[(nx, .row 5 (.by (rsaF key).1.n)),(nx+1, .row 5 (.by (rsaF key).1.e))],nx+3⟩
  |_=>none
 else if f=77 then match args with
  |[.val (.int .i64 c), .by key]=>some ⟨[c=1∨c=2,key=4::((ecF c key).1.x++(ecF c key).1.y),sizeC c=((ecF c key).1.x.length:Int),(ecF c key).1.y.length=(ecF c key).1.x.length],[],[], .tu [koV 3 c [none,none,none,some nx,some (nx+1)], .val .nilIface],[(nx, .row 5 (.by (ecF c key).1.x)),(nx+1, .row 5 (.by (ecF c key).1.y))],nx+5⟩
  |_=>none
 else none
theorem BLh_ok (J:Inv) (f:FuncId) (args:List V) (h:List (Nat×Ob)) (nx:Nat) (c:CallH) (hc:BLh f args h nx=some c) (hl:AllP c.l):FnH Tryz.prog J f (mixA h c.bw args).1 c.pre nx c.res c.post c.nx:=by
 unfold BLh at hc
 split at hc
 ·rename_i hf;subst hf
  split at hc
  ·rename_i key
   obtain rfl:=Option.some.inj hc
   have h1:rsC (rsaF key).1.n (rsaF key).1.e=0:=hl _ (by simp)
   have h2:key=(printF (innL (rsaF key).1.n (rsaF key).1.e)).1:=hl _ (by simp)
   exact rsaO_own J _ _ key nx h1 h2
  ·cases hc
 ·split at hc
  ·rename_i hf;subst hf
   split at hc
   ·rename_i c key
    obtain rfl:=Option.some.inj hc
    have h1:c=1∨c=2:=hl _ (by simp)
    have h2:key=4::((ecF c key).1.x++(ecF c key).1.y):=hl _ (by simp)
    have h3:sizeC c=((ecF c key).1.x.length:Int):=hl _ (by simp)
    have h4:(ecF c key).1.y.length=(ecF c key).1.x.length:=hl _ (by simp)
    have h5:=ecO_own J c h1 (ecF c key).1.x (ecF c key).1.y nx _ h3 rfl h4
    rw[←h2] at h5
    exact h5
   ·cases hc
  ·cases hc
def BLaf:FuncId→List V→CR:=fun f args=>tab [(23,cY fun b=>cF [b.length≤140737488355328] false (.tu [tlsV (parseF b).1, .i (parseF b).2.1, .i (parseF b).2.2])),
 (34,cI .i64 fun c=>cF [] false (.str (cvN c))),
 (75,cE fun t=>cS fun s=>cF [t.data.length≤65536] false (.bb (isF t s)))] noF f args
def BLa (J:Inv):Sig:=⟨J,sdf,BLaf,noH,0⟩
theorem BLa_ok (J:Inv) (hJ: ∀w F,J.I w F→JV.I w F):SigOk Tryz.prog (BLa J):= .plain (tab_ok (.c (.y fun b=> .z fun⟨c0,_⟩=>parse_fn J b c0)<|
 .c (.i fun c=> .z fun _=>curveName_fn J c)<|
 .c (.e fun t=> .s fun s=> .z fun⟨c0,_⟩=>spis_fn J hJ t s c0)<| .n) noF_ok)
def BL (J:Inv) (nx:Nat):Sig:=⟨J,sdf,BLaf,BLh,nx⟩
theorem BL_ok (J:Inv) (hJ: ∀w F,J.I w F→JV.I w F) (nx:Nat):SigOk Tryz.prog (BL J nx):=⟨(BLa_ok J hJ).1,BLh_ok J⟩
theorem readO2_own (J:Inv) (hJ: ∀w F,J.I w F→JV.I w F) (n e b key:List UInt8) (nx:Nat) (hr:rsC n e=0) (hk:key=(printF (innL n e)).1) (hp:parseF b=(elemF algR key,0,0)) (hb:b.length≤65536):FnH Tryz.prog J 43 [.by b] [] nx (.tu [koV 2 0 [none,some nx,some (nx+1),none,none], .val .nilIface]) [(nx, .row 5 (.by n)),(nx+1, .row 5 (.by e))] (nx+9):=by
 have hrf:rsaF key=(⟨2,0,[],n,e,[],[]⟩,none):=by
  obtain⟨h1,h2,h3,h4⟩:=rs_facts hr
  obtain⟨hp, -⟩:(printF (innL n e)).2=0∧(printF (innL n e)).1.length≤6100:=print_3 (prim_uint n) (prim_uint e) (by have:=ofuD_len n;show(ofuD n).length≤_;omega) (by have:=ofuD_len e;show(ofuD e).length≤_;omega)
  obtain⟨hq,_⟩:=parse_print hp
  rw[←hk] at hq
  unfold rsaF
  rw[hq]
  have u1:(innL n e).getD 1 default=⟨2,ofuD n,0⟩:=rfl
  have u2:(innL n e).getD 2 default=⟨2,ofuD e,0⟩:=rfl
  simp only[u1,u2,uint_of,h1,h2]
  rw[if_neg (by simp[innL]),if_pos (by simp)]
 have hkl:key.length≤6100:=by
  obtain⟨h1,h2,h3,h4⟩:=rs_facts hr
  rw[hk]
  exact(print_3 (prim_uint n) (prim_uint e) (by have:=ofuD_len n;show(ofuD n).length≤_;omega) (by have:=ofuD_len e;show(ofuD e).length≤_;omega)).2
 obtain⟨ts,hts⟩: ∃ts,elemF algR key=ts:=⟨_,rfl⟩
 have e0:ts=[⟨48,[],2⟩,⟨48,[],2⟩,⟨6,oidB rsaN,0⟩,⟨5,[],0⟩,⟨3,0::key,0⟩]:=by rw[←hts];rfl
 rw[hts] at hp
 have t0:ts.getD 0 default=⟨48,[],2⟩:=by rw[e0];rfl
 have t1:ts.getD 1 default=⟨48,[],2⟩:=by rw[e0];rfl
 have t2:ts.getD 2 default=⟨6,oidB rsaN,0⟩:=by rw[e0];rfl
 have t3:ts.getD 3 default=⟨5,[],0⟩:=by rw[e0];rfl
 have t4:ts.getD 4 default=⟨3,0::key,0⟩:=by rw[e0];rfl
 have tl:ts.length=5:=by rw[e0];rfl
 clear e0 hts
 have i1:isF ⟨6,oidB rsaN,0⟩ rsaN=true:=by rw[isF_of nm_rsa.1];decide
 have d1:(oidB rsaN).length≤65536:=by rw[nm_rsa.2];decide
 generalize oidB rsaN=O at t2 i1 d1
 refine fnC Tryz.func43 rfl (by kernel_rfl) (BL_ok J hJ nx) rfl ?_
 unfold Tryz.f43
 have m1:[49,46,51,46,49,48,49,46,49,49,50]=edN:=rfl
 have m2:[49,46,50,46,56,52,48,46,49,49,51,53,52,57,46,49,46,49,46,49]=rsaN:=rfl
 have m3:[49,46,50,46,56,52,48,46,49,48,48,52,53,46,50,46,49]=ecN:=rfl
 have c5:((5:Nat):Int)=5:=rfl
 have c4:((5:Int)-1).toNat=4:=rfl
 have b0: ∀a:Int,(a==a)=true:=fun a=>beq_self_eq_true a
 have b1:decide ((5:Int)<4)=false∧decide ((5:Int)<5)=false∧((0:Int)==10)=false∧((5:Int)==4)=false∧((5:Int)-3)=2:=⟨rfl,rfl,rfl,rfl,rfl⟩
 have kt:List.take (key.length+1-1) key=key:=List.take_of_length_le (by omega)
 have kb:byteAt (0::key) 0=0:=rfl
 have n1: ∀j,(nx+j<nx)=False:=fun j=>by simp
 have n0:(nx<nx)=False:=by simp
 simp only[↓bD,bQ,reduceLeDiff,reduceEqDiff,reduceLT,reduceAdd,↓reduceIte,reduceCtorEq,reduceToNat,bnB,BL,BLh,BLaf,cE,tlsV,tlvD,koV,hp,t0,t1,t2,t3,t4,tl,i1,m1,m2,m3,c5,c4,b1,kt,kb,hrf]
 have i2:I64 2:=by constructor<;>omega
 have i3:I64 (5-1):=by constructor<;>omega
 refine⟨by omega,fun _=>by omega,fun _=>by omega,fun _=>by omega,fun _=>by omega,fun _=>by omega,fun _=>by omega,fun _=>by omega,fun _=>by omega,fun _=>i2,i3,by omega,by omega,fun _=>by omega,fun _=>by omega,by omega,by omega,fun h=>h.elim,fun h=>h.elim,fun h=>h.elim,fun _=>by omega,fun _=>by omega,fun _=>d1,fun _=>by omega,fun _=>by omega,hr,hk,RenC.intro [(nx,nx+2),(nx+1,nx+3),(nx+2,nx)] ⟨[(2, .op (nx+2) 0),(3, .val .nilIface)],[(nx+2, .box 26 (koV 2 0 [none,some nx,some (nx+1),none,none])),(nx, .row 5 (.by n)),(nx+1, .row 5 (.by e))],nx+3⟩ ?_ ?_⟩
 ·simp only[bQ,reduceEqDiff,↓reduceIte,reduceCtorEq,koV,n0,n1]
  omega
 ·simp only[bQ,reduceLeDiff,reduceEqDiff,reduceLT,reduceAdd,↓reduceIte,reduceCtorEq,koV]
  omega
theorem readO3_own (J:Inv) (hJ: ∀w F,J.I w F→JV.I w F) (c:Int) (hc:c=1∨c=2) (x y b:List UInt8) (N nx:Nat) (hN:sizeC c=N) (hx:x.length=N) (hy:y.length=N) (hp:parseF b=(elemF (algE c) (4::(x++y)),0,0)) (hb:b.length≤65536):FnH Tryz.prog J 43 [.by b] [] nx (.tu [koV 3 c [none,none,none,some nx,some (nx+1)], .val .nilIface]) [(nx, .row 5 (.by x)),(nx+1, .row 5 (.by y))] (nx+9):=by
 have hNs:N≤48:=by rcases hc with rfl|rfl<;>(unfold sizeC at hN;simp at hN;omega)
 have hef:ecF c (4::(x++y))=(⟨3,c,[],[],[],x,y⟩,none):=by
  unfold ecF
  rw[if_neg]
  ·have e1:(sizeC c).toNat=x.length:=by omega
   rw[e1]
   simp
  ·simp only[List.length_cons,List.length_append,byteAt_cons]
   intro h
   rcases h with h|h
   ·omega
   ·exact h rfl
 obtain⟨key,hkey⟩: ∃key,4::(x++y)=key:=⟨_,rfl⟩
 have hk:key=4::(x++y):=hkey.symm
 have hkl:key.length=2*N+1:=by rw[hk];simp only[List.length_cons,List.length_append];omega
 rw[hkey] at hef hp
 obtain⟨ts,hts⟩: ∃ts,elemF (algE c) key=ts:=⟨_,rfl⟩
 have e0:ts=[⟨48,[],2⟩,⟨48,[],2⟩,⟨6,oidB ecN,0⟩,⟨6,oidB (cvN c),0⟩,⟨3,0::key,0⟩]:=by rw[←hts];rfl
 rw[hts] at hp
 have t0:ts.getD 0 default=⟨48,[],2⟩:=by rw[e0];rfl
 have t1:ts.getD 1 default=⟨48,[],2⟩:=by rw[e0];rfl
 have t2:ts.getD 2 default=⟨6,oidB ecN,0⟩:=by rw[e0];rfl
 have t3:ts.getD 3 default=⟨6,oidB (cvN c),0⟩:=by rw[e0];rfl
 have t4:ts.getD 4 default=⟨3,0::key,0⟩:=by rw[e0];rfl
 have tl:ts.length=5:=by rw[e0];rfl
 clear e0 hts hkey
 have i1:isF ⟨6,oidB ecN,0⟩ rsaN=false:=by rw[isF_of nm_ec.1];decide
 have i2:isF ⟨6,oidB ecN,0⟩ ecN=true:=by rw[isF_of nm_ec.1];decide
 have i3:isF ⟨6,oidB (cvN c),0⟩ p256N=(c==1):=by rw[isF_of (nm_cv c).1];rcases hc with rfl|rfl<;>decide
 have i4:isF ⟨6,oidB (cvN c),0⟩ p384N=(c==2):=by rw[isF_of (nm_cv c).1];rcases hc with rfl|rfl<;>decide
 have d1:(oidB ecN).length≤65536:=by rw[nm_ec.2];decide
 have d2:(oidB (cvN c)).length≤65536:=by have:=(nm_cv c).2.1;omega
 generalize oidB ecN=O at t2 i1 i2 d1
 generalize oidB (cvN c)=O2 at t3 i3 i4 d2
 have m1:[49,46,51,46,49,48,49,46,49,49,50]=edN:=rfl
 have m2:[49,46,50,46,56,52,48,46,49,49,51,53,52,57,46,49,46,49,46,49]=rsaN:=rfl
 have m3:[49,46,50,46,56,52,48,46,49,48,48,52,53,46,50,46,49]=ecN:=rfl
 have c5:((5:Nat):Int)=5:=rfl
 have c4:((5:Int)-1).toNat=4:=rfl
 have b0: ∀a:Int,(a==a)=true:=fun a=>beq_self_eq_true a
 have b1:decide ((5:Int)<4)=false∧decide ((5:Int)<5)=false∧((0:Int)==10)=false∧((5:Int)==4)=false∧((5:Int)-3)=2:=⟨rfl,rfl,rfl,rfl,rfl⟩
 have b2:((2:Int)==1)=false:=rfl
 have kt:List.take (key.length+1-1) key=key:=List.take_of_length_le (by omega)
 have kb:byteAt (0::key) 0=0:=rfl
 have n1: ∀j,(nx+j<nx)=False:=fun j=>by simp
 have n0:(nx<nx)=False:=by simp
 have j2:I64 2:=by constructor<;>omega
 have j3:I64 (5-1):=by constructor<;>omega
 refine fnC Tryz.func43 rfl (by kernel_rfl) (BL_ok J hJ nx) rfl ?_
 unfold Tryz.f43
 rcases hc with rfl|rfl
 ·simp only[↓bD,bQ,reduceLeDiff,reduceEqDiff,reduceLT,reduceAdd,↓reduceIte,reduceCtorEq,reduceToNat,bnB,BL,BLaf,cE,tlsV,tlvD,koV,hp,t0,t1,t2,t3,t4,tl,i1,m1,m2,m3,c5,c4,b1,kt,kb]
  repeat' with_reducible apply And.intro
  all_goals first|omega|exact j3|exact hk|exact .inl rfl|exact .inr rfl|exact .inl trivial|exact .inr trivial|(intro h;first|exact h.elim|exact d1|exact d2|exact j2|omega)|skip
  refine DrawC.tree (.q 0 [] (.q 1 [] (.q 2 [] (.q 3 [] (.q 4 [] (.q 5 [] (.q 6 [] (.one 7 (.q 8 [] (.q 9 [] (.q 10 [] (.q 11 [] (.q 12 [] (.one 13 (.one 14 (.q 15 [] (.q 16 [] .done))))))))))))))))) [] (by kernel_rfl) ?_
  simp only[↓bD,bQ,reduceLeDiff,reduceEqDiff,reduceLT,reduceAdd,↓reduceIte,reduceCtorEq,reduceToNat,bnB,BLh,BLaf,cE,koV,t2,t3,tl,i2,i3,cvN1,c5,hef]
  repeat' with_reducible apply And.intro
  all_goals first|omega|exact j3|exact hk|exact .inl rfl|exact .inr rfl|exact .inl trivial|exact .inr trivial|(intro h;first|exact h.elim|exact d1|exact d2|exact j2|omega)|(refine RenC.intro [(nx,nx+2),(nx+1,nx+3),(nx+2,nx)] ⟨[(2, .op (nx+2) 0),(3, .val .nilIface)],[(nx+2, .box 26 (koV 3 1 [none,none,none,some nx,some (nx+1)])),(nx, .row 5 (.by x)),(nx+1, .row 5 (.by y))],nx+3⟩ ?_ ?_<;>simp only[bQ,reduceLeDiff,reduceEqDiff,reduceLT,reduceAdd,↓reduceIte,reduceCtorEq,koV,n0,n1]<;>omega)
 ·simp only[↓bD,bQ,reduceLeDiff,reduceEqDiff,reduceLT,reduceAdd,↓reduceIte,reduceCtorEq,reduceToNat,bnB,BL,BLaf,cE,tlsV,tlvD,koV,hp,t0,t1,t2,t3,t4,tl,i1,m1,m2,m3,c5,c4,b1,kt,kb]
  repeat' with_reducible apply And.intro
  all_goals first|omega|exact j3|exact hk|exact .inl rfl|exact .inr rfl|exact .inl trivial|exact .inr trivial|(intro h;first|exact h.elim|exact d1|exact d2|exact j2|omega)|skip
  refine DrawC.tree (.q 0 [] (.q 1 [] (.q 2 [] (.q 3 [] (.q 4 [] (.q 5 [] (.q 6 [] (.one 7 (.q 8 [] (.q 9 [] (.q 10 [] (.q 11 [] (.q 12 [] (.one 13 (.one 14 (.q 15 [] (.q 16 [] .done))))))))))))))))) [] (by kernel_rfl) ?_
  simp only[↓bD,bQ,reduceEqDiff,reduceAdd,↓reduceIte,reduceCtorEq,reduceToNat,bnB,BLaf,cE,t2,t3,tl,i2,i3,cvN1,c5,b2]
  repeat' with_reducible apply And.intro
  all_goals first|omega|exact j3|exact hk|exact .inl rfl|exact .inr rfl|exact .inl trivial|exact .inr trivial|(intro h;first|exact h.elim|exact d1|exact d2|exact j2|omega)|skip
  refine DrawC.tree (.q 0 [] (.q 1 [] (.q 2 [] (.q 3 [] (.q 4 [] (.q 5 [] (.q 6 [] (.one 7 (.q 8 [] (.q 9 [] (.q 10 [] (.q 11 [] (.q 12 [] (.one 13 (.one 14 (.q 15 [] (.q 16 [] .done))))))))))))))))) [] (by kernel_rfl) ?_
  simp only[↓bD,bQ,reduceLeDiff,reduceEqDiff,reduceLT,reduceAdd,↓reduceIte,reduceCtorEq,reduceToNat,bnB,BLh,BLaf,cE,koV,t2,t3,tl,i2,i4,cvN2,c5,hef]
  repeat' with_reducible apply And.intro
  all_goals first|omega|exact j3|exact hk|exact .inl rfl|exact .inr rfl|exact .inl trivial|exact .inr trivial|(intro h;first|exact h.elim|exact d1|exact d2|exact j2|omega)|(refine RenC.intro [(nx,nx+2),(nx+1,nx+3),(nx+2,nx)] ⟨[(2, .op (nx+2) 0),(3, .val .nilIface)],[(nx+2, .box 26 (koV 3 2 [none,none,none,some nx,some (nx+1)])),(nx, .row 5 (.by x)),(nx+1, .row 5 (.by y))],nx+3⟩ ?_ ?_<;>simp only[bQ,reduceLeDiff,reduceEqDiff,reduceLT,reduceAdd,↓reduceIte,reduceCtorEq,koV,n0,n1]<;>omega)
theorem readO4_own (J:Inv) (hJ: ∀w F,J.I w F→JV.I w F) (x b:List UInt8) (nx:Nat) (hx:x.length=32) (hp:parseF b=(elemF algO x,0,0)) (hb:b.length≤65536):FnH Tryz.prog J 43 [.by b] [] nx (.tu [koV 4 3 [none,none,none,some nx,none], .val .nilIface]) [(nx, .row 5 (.by x))] (nx+9):=by
 obtain⟨ts,hts⟩: ∃ts,elemF algO x=ts:=⟨_,rfl⟩
 have e0:ts=[⟨48,[],2⟩,⟨48,[],1⟩,⟨6,oidB edN,0⟩,⟨3,0::x,0⟩]:=by rw[←hts];rfl
 rw[hts] at hp
 have t0:ts.getD 0 default=⟨48,[],2⟩:=by rw[e0];rfl
 have t1:ts.getD 1 default=⟨48,[],1⟩:=by rw[e0];rfl
 have t2:ts.getD 2 default=⟨6,oidB edN,0⟩:=by rw[e0];rfl
 have t3:ts.getD 3 default=⟨3,0::x,0⟩:=by rw[e0];rfl
 have tl:ts.length=4:=by rw[e0];rfl
 clear e0 hts
 have i1:isF ⟨6,oidB edN,0⟩ edN=true:=by rw[isF_of nm_ed.1];decide
 have d1:(oidB edN).length≤65536:=by rw[nm_ed.2];decide
 generalize oidB edN=O at t2 i1 d1
 have m1:[49,46,51,46,49,48,49,46,49,49,50]=edN:=rfl
 have c5:((4:Nat):Int)=4:=rfl
 have c4:((4:Int)-1).toNat=3:=rfl
 have b0: ∀a:Int,(a==a)=true:=fun a=>beq_self_eq_true a
 have b1:decide ((4:Int)<4)=false∧decide ((5:Int)<4)=false∧((0:Int)==10)=false∧((4:Int)-3)=1:=⟨rfl,rfl,rfl,rfl⟩
 have kt:List.take (x.length+1-1) x=x:=List.take_of_length_le (by omega)
 have kb:byteAt (0::x) 0=0:=rfl
 have kx:((x.length:Int)==32)=true:=beq_iff_eq.2 (by omega)
 have n1: ∀j,(nx+j<nx)=False:=fun j=>by simp
 have n0:(nx<nx)=False:=by simp
 have j2:I64 1:=by constructor<;>omega
 have j3:I64 (4-1):=by constructor<;>omega
 refine fnC Tryz.func43 rfl (by kernel_rfl) (BL_ok J hJ nx) rfl ?_
 unfold Tryz.f43
 simp only[↓bD,bQ,reduceLeDiff,reduceEqDiff,reduceLT,reduceAdd,↓reduceIte,reduceCtorEq,reduceToNat,bnB,BL,BLaf,cE,tlsV,tlvD,koV,hp,t0,t1,t2,t3,tl,i1,m1,c5,c4,b1,kt,kb,kx]
 repeat' with_reducible apply And.intro
 all_goals first|omega|exact j3|(intro h;first|exact h.elim|exact d1|exact j2|omega)|(refine RenC.intro [(nx,nx+2),(nx+1,nx)] ⟨[(2, .op (nx+1) 0),(3, .val .nilIface)],[(nx+1, .box 26 (koV 4 3 [none,none,none,some nx,none])),(nx, .row 5 (.by x))],nx+2⟩ ?_ ?_<;>simp only[bQ,reduceLeDiff,reduceEqDiff,reduceLT,reduceAdd,↓reduceIte,reduceCtorEq,koV,n0,n1]<;>omega)
def ownT (f0:FuncId) (b0:List UInt8) (res:Nat→V) (post:Nat→List (Nat×Ob)) (d:Nat):FuncId→List V→List (Nat×Ob)→Nat→Option CallH:=fun f args _ nx=>
 if f=f0 then match args with
  |[.by b]=>some ⟨[b=b0],[],[],res nx,post nx,nx+d⟩
  |_=>none
 else none
theorem ownT_ok {J:Inv} {f0:FuncId} {b0:List UInt8} {res:Nat→V} {post:Nat→List (Nat×Ob)} {d:Nat} (H: ∀nx,FnH Tryz.prog J f0 [.by b0] [] nx (res nx) (post nx) (nx+d)) (f:FuncId) (args:List V) (h:List (Nat×Ob)) (nx:Nat) (c:CallH) (hc:ownT f0 b0 res post d f args h nx=some c) (hl:AllP c.l):FnH Tryz.prog J f (mixA h c.bw args).1 c.pre nx c.res c.post c.nx:=by
 unfold ownT at hc
 split at hc
 ·rename_i hf;subst hf
  split at hc
  ·rename_i b
   obtain rfl:=Option.some.inj hc
   have h1:b=b0:=hl _ (by simp)
   subst h1
   exact H nx
  ·cases hc
 ·cases hc
def BPqf:FuncId→List V→CR:=fun f args=>tab [(29,cK fun k=>cF [k.Ok] false (.bb k.good))] noF f args
def BPq (J:Inv):Sig:=⟨J,sdf,BPqf,noH,0⟩
theorem BPq_ok (J:Inv) (hE:EdT J):SigOk Tryz.prog (BPq J):= .plain (tab_ok (.c (.k fun _=> .z fun⟨c0,_⟩=>good_fn J hE _ _ _ _ _ _ _ c0.s c0.n c0.e c0.x c0.y)<| .n) noF_ok)
def BPqt:FuncId→List V→CR:=fun f args=>tab [(44,cIs)] BPqf f args
def BP (J:Inv) (b0:List UInt8) (res:Nat→V) (post:Nat→List (Nat×Ob)) (d nx:Nat):Sig:=⟨J,sdf,BPqt,ownT 43 b0 res post d,nx⟩
theorem BP_ok (J:Inv) (hE:EdT J) {b0:List UInt8} {res:Nat→V} {post:Nat→List (Nat×Ob)} {d:Nat} (H: ∀nx,FnH Tryz.prog J 43 [.by b0] [] nx (res nx) (post nx) (nx+d)) (nx:Nat):SigOk Tryz.prog (BP J b0 res post d nx):=⟨tab_ok (.c (cIs_ok J) .n) (BPq_ok J hE).1,ownT_ok H⟩
theorem parseO2_own (J:Inv) (hE:EdT J) (n e b:List UInt8) (hok:(Ky.mk 2 0 [] n e [] []).Ok) (hg:(Ky.mk 2 0 [] n e [] []).good=true) (H: ∀nx,FnH Tryz.prog J 43 [.by b] [] nx (.tu [koV 2 0 [none,some nx,some (nx+1),none,none], .val .nilIface]) [(nx, .row 5 (.by n)),(nx+1, .row 5 (.by e))] (nx+9)) (nx:Nat):FnH Tryz.prog J 19 [.by b] [] nx (.tu [koV 2 0 [none,some nx,some (nx+1),none,none], .i 0]) [(nx, .row 5 (.by n)),(nx+1, .row 5 (.by e))] (nx+12):=by
 refine fnC Tryz.func19 rfl (by kernel_rfl) (BP_ok J hE H nx) rfl ?_
 unfold Tryz.f19
 have b0: ∀a:Int,(a==a)=true:=fun a=>beq_self_eq_true a
 have n1: ∀j,(nx+j<nx)=False:=fun j=>by simp
 have n0:(nx<nx)=False:=by simp
 simp only[↓bD,bQ,reduceLeDiff,reduceEqDiff,reduceLT,reduceAdd,↓reduceIte,reduceCtorEq,BP,BPqt,BPqf,ownT,cIs,cK,keyW,byN,koV,hg]
 refine⟨fun _=>hok,RenC.intro [(nx,nx+1),(nx+1,nx+2),(nx+2,nx)] ⟨[(2, .op (nx+2) 0),(3, .i 0)],(nx+2, .box 26 (koV 2 0 [none,some nx,some (nx+1),none,none]))::[(nx, .row 5 (.by n)),(nx+1, .row 5 (.by e))],nx+2+1⟩ ?_ ?_⟩
 ·simp only[bQ,reduceEqDiff,reduceAdd,↓reduceIte,reduceCtorEq,koV,n0,n1]
  omega
 ·simp only[bQ,reduceLeDiff,reduceEqDiff,reduceLT,reduceAdd,↓reduceIte,reduceCtorEq,koV]
  omega
theorem parseO3_own (J:Inv) (hE:EdT J) (c:Int) (x y b:List UInt8) (hok:(Ky.mk 3 c [] [] [] x y).Ok) (hg:(Ky.mk 3 c [] [] [] x y).good=true) (H: ∀nx,FnH Tryz.prog J 43 [.by b] [] nx (.tu [koV 3 c [none,none,none,some nx,some (nx+1)], .val .nilIface]) [(nx, .row 5 (.by x)),(nx+1, .row 5 (.by y))] (nx+9)) (nx:Nat):FnH Tryz.prog J 19 [.by b] [] nx (.tu [koV 3 c [none,none,none,some nx,some (nx+1)], .i 0]) [(nx, .row 5 (.by x)),(nx+1, .row 5 (.by y))] (nx+12):=by
 refine fnC Tryz.func19 rfl (by kernel_rfl) (BP_ok J hE H nx) rfl ?_
 unfold Tryz.f19
 have b0: ∀a:Int,(a==a)=true:=fun a=>beq_self_eq_true a
 have n1: ∀j,(nx+j<nx)=False:=fun j=>by simp
 have n0:(nx<nx)=False:=by simp
 simp only[↓bD,bQ,reduceLeDiff,reduceEqDiff,reduceLT,reduceAdd,↓reduceIte,reduceCtorEq,BP,BPqt,BPqf,ownT,cIs,cK,keyW,byN,koV,hg]
 refine⟨fun _=>hok,RenC.intro [(nx,nx+1),(nx+1,nx+2),(nx+2,nx)] ⟨[(2, .op (nx+2) 0),(3, .i 0)],(nx+2, .box 26 (koV 3 c [none,none,none,some nx,some (nx+1)]))::[(nx, .row 5 (.by x)),(nx+1, .row 5 (.by y))],nx+2+1⟩ ?_ ?_⟩
 ·simp only[bQ,reduceEqDiff,reduceAdd,↓reduceIte,reduceCtorEq,koV,n0,n1]
  omega
 ·simp only[bQ,reduceLeDiff,reduceEqDiff,reduceLT,reduceAdd,↓reduceIte,reduceCtorEq,koV]
  omega
theorem parseO4_own (J:Inv) (hE:EdT J) (x b:List UInt8) (hok:(Ky.mk 4 3 [] [] [] x []).Ok) (hg:(Ky.mk 4 3 [] [] [] x []).good=true) (H: ∀nx,FnH Tryz.prog J 43 [.by b] [] nx (.tu [koV 4 3 [none,none,none,some nx,none], .val .nilIface]) [(nx, .row 5 (.by x))] (nx+9)) (nx:Nat):FnH Tryz.prog J 19 [.by b] [] nx (.tu [koV 4 3 [none,none,none,some nx,none], .i 0]) [(nx, .row 5 (.by x))] (nx+12):=by
 refine fnC Tryz.func19 rfl (by kernel_rfl) (BP_ok J hE H nx) rfl ?_
 unfold Tryz.f19
 have b0: ∀a:Int,(a==a)=true:=fun a=>beq_self_eq_true a
 have n1: ∀j,(nx+j<nx)=False:=fun j=>by simp
 have n0:(nx<nx)=False:=by simp
 simp only[↓bD,bQ,reduceLeDiff,reduceEqDiff,reduceLT,reduceAdd,↓reduceIte,reduceCtorEq,BP,BPqt,BPqf,ownT,cIs,cK,keyW,byN,koV,hg]
 refine⟨fun _=>hok,RenC.intro [(nx,nx+1),(nx+1,nx)] ⟨[(2, .op (nx+1) 0),(3, .i 0)],(nx+1, .box 26 (koV 4 3 [none,none,none,some nx,none]))::[(nx, .row 5 (.by x))],nx+1+1⟩ ?_ ?_⟩
 ·simp only[bQ,reduceEqDiff,reduceAdd,↓reduceIte,reduceCtorEq,koV,n0,n1]
  omega
 ·simp only[bQ,reduceLeDiff,reduceEqDiff,reduceLT,reduceAdd,↓reduceIte,reduceCtorEq,koV]
  omega
inductive KyS:Ky→Prop
 |rsa (n e:List UInt8):KyS ⟨2,0,[],n,e,[],[]⟩
 |ec (c:Int) (x y:List UInt8):KyS ⟨3,c,[],[],[],x,y⟩
 |okp (x:List UInt8):KyS ⟨4,3,[],[],[],x,[]⟩
def kyO (k:Ky) (nx:Nat):V:=koV k.kty k.crv (if k.kty=2 then [none,some nx,some (nx+1),none,none] else if k.kty=3 then [none,none,none,some nx,some (nx+1)] else [none,none,none,some nx,none])
def kyH (k:Ky) (nx:Nat):List (Nat×Ob):=if k.kty=2 then [(nx, .row 5 (.by k.n)),(nx+1, .row 5 (.by k.e))] else if k.kty=3 then [(nx, .row 5 (.by k.x)),(nx+1, .row 5 (.by k.y))] else [(nx, .row 5 (.by k.x))]
theorem kyO_2 (n e:List UInt8) (nx:Nat):kyO ⟨2,0,[],n,e,[],[]⟩ nx=koV 2 0 [none,some nx,some (nx+1),none,none]:=rfl
theorem kyO_3 (c:Int) (x y:List UInt8) (nx:Nat):kyO ⟨3,c,[],[],[],x,y⟩ nx=koV 3 c [none,none,none,some nx,some (nx+1)]:=rfl
theorem kyO_4 (x:List UInt8) (nx:Nat):kyO ⟨4,3,[],[],[],x,[]⟩ nx=koV 4 3 [none,none,none,some nx,none]:=rfl
theorem kyH_2 (n e:List UInt8) (nx:Nat):kyH ⟨2,0,[],n,e,[],[]⟩ nx=[(nx, .row 5 (.by n)),(nx+1, .row 5 (.by e))]:=rfl
theorem kyH_3 (c:Int) (x y:List UInt8) (nx:Nat):kyH ⟨3,c,[],[],[],x,y⟩ nx=[(nx, .row 5 (.by x)),(nx+1, .row 5 (.by y))]:=rfl
theorem kyH_4 (x:List UInt8) (nx:Nat):kyH ⟨4,3,[],[],[],x,[]⟩ nx=[(nx, .row 5 (.by x))]:=rfl
def kyP (k:Ky) (nx:Nat):V:= .tu [kyO k nx, .i 0]
def UOaf:FuncId→List V→CR:=fun f args=>tab [(45,cS fun s=>cS fun p=>cF [] false (.tu [.str (Lib.trimPrefix s p), .bb (Lib.hasPrefix s p)])),
 (46,cS fun s=>cS fun p=>cF [s.length≤1073741824] false (.tu [.str (Lib.trimSuffix s p), .bb (Lib.hasSuffix s p)])),
 (47,cS fun s=>cS fun p=>cF [p=[10],s.length≤1073741824] false (.tu [.str (cutN s).1, .str (cutN s).2.1, .bb (cutN s).2.2])),
 (48,cS fun s=>cF [s.length≤67108000] false (.tu [.by (decF s).1, .i (decF s).2.1, .i (decF s).2.2]))] noF f args
def UOa (J:Inv):Sig:=⟨J,sdf,UOaf,noH,0⟩
theorem UOa_ok (J:Inv) (hJ: ∀w F,J.I w F→JV.I w F):SigOk Tryz.prog (UOa J):= .plain (tab_ok (.c (.s fun s=> .s fun p=> .z fun _=>cutPrefix_fn J s p)<|
 .c (.s fun s=> .s fun p=> .z fun⟨c0,_⟩=>cutSuffix_fn J s p c0)<|
 .c (.s fun s=> .s fun _=> .z fun⟨c0,c1,_⟩=>(by rw[c0];exact cut10_fn J s hJ c1))<|
 .c (.s fun s=> .z fun⟨c0,_⟩=>decodeStd_fn J s c0)<| .n) noF_ok)
def UOh (b0:List UInt8) (k:Ky):FuncId→List V→List (Nat×Ob)→Nat→Option CallH:=fun f args h nx=>if f=19 then ownT 19 b0 (kyP k) (kyH k) 12 f args h nx else BMh f args h nx
def UO (J:Inv) (b0:List UInt8) (k:Ky) (nx:Nat):Sig:=⟨J,sdf,UOaf,UOh b0 k,nx⟩
theorem UO_ok (J:Inv) (hJ: ∀w F,J.I w F→JV.I w F) {b0:List UInt8} {k:Ky} (H: ∀nx,FnH Tryz.prog J 19 [.by b0] [] nx (kyP k nx) (kyH k nx) (nx+12)) (nx:Nat):SigOk Tryz.prog (UO J b0 k nx):=by
 refine⟨(UOa_ok J hJ).1,fun f args h nx c hc hl=> ?_⟩
 change UOh b0 k f args h nx=some c at hc
 unfold UOh at hc
 split at hc
 ·exact ownT_ok H f args h nx c hc hl
 ·exact BMh_ok J f args h nx c hc hl
def bldN (nx r:Nat):List UInt8→List (Nat×Ob)
 |[]=>[(nx+1, .box 63 (.st [.val (.pointer none), .val (.slice none 0 0)])),(nx, .box 26 keyZ)]
 |c::l=>[(nx+1, .box 63 (.st [.op (nx+1) 0, .ro (.r r)])),(r, .row 5 (.by (c::l))),(nx, .box 26 keyZ)]
theorem unpemO_own (J:Inv) (hJ: ∀w F,J.I w F→JV.I w F) (k:Ky) (hsh:KyS k) (b:List UInt8) (hb:b≠[]) (ht:(pemF b).length≤16777216) (H: ∀nx,FnH Tryz.prog J 19 [.by b] [] nx (kyP k nx) (kyH k nx) (nx+12)) (nx:Nat):FnH Tryz.prog J 20 [.str (pemF b)] [] nx (kyP k nx) (kyH k nx) (nx+12):=by
 have hpf:Lib.hasPrefix (pemF b) beginN=true:=(trimP_app beginN (pemL (encF stdS b)++endN)).1
 have htp:Lib.trimPrefix (pemF b) beginN=pemL (encF stdS b)++endN:=(trimP_app beginN (pemL (encF stdS b)++endN)).2
 obtain⟨hsf,hts⟩:=trimS_app endN (pemL (encF stdS b))
 have hun:=unP_pemL _ (encF stdS b) (Nat.le_refl _) (enc_no10 b)
 have hdc:=dec_enc b
 have hBne:(pemL (encF stdS b)==[])=false:=beq_eq_false_iff_ne.2 fun e=>hb (enc_eq.1 (pemL_eq.1 e))
 have hl1:(pemL (encF stdS b)++endN).length≤16777216:=by rw[←htp];exact Nat.le_trans (trimP_len _ _) ht
 have hBl:(pemL (encF stdS b)).length≤16777216:=by rw[List.length_append] at hl1;omega
 generalize pemL (encF stdS b)++endN=B1 at *
 generalize pemL (encF stdS b)=B at *
 generalize pemF b=t at *
 generalize encF stdS b=a at *
 have hB:B≠[]:=fun e=>by rw[e] at hBne;exact absurd hBne (by decide)
 refine fnC Tryz.func20 rfl (by kernel_rfl) (UO_ok J hJ H nx) rfl ?_
 unfold Tryz.f20
 have n1:[45,45,45,45,45,66,69,71,73,78,32,80,85,66,76,73,67,32,75,69,89,45,45,45,45,45,10]=beginN:=rfl
 have n2:[45,45,45,45,45,69,78,68,32,80,85,66,76,73,67,32,75,69,89,45,45,45,45,45,10]=endN:=rfl
 have m1: ∀j,(nx+j<nx)=False:=fun j=>by simp
 have m0:(nx<nx)=False:=by simp
 simp only[↓bD,bQ,reduceEqDiff,reduceLT,reduceAdd,↓reduceIte,reduceCtorEq,UO,UOaf,n1,n2,hpf,htp,hsf,hts,hBne]
 refine⟨by omega,?_⟩
 have m2:(nx+1=nx)=False:=eq_false (by omega)
 have m3:(nx=nx+1)=False:=eq_false (by omega)
 refine LoopC.intro (α:=List UInt8×List UInt8×Nat) (fun y=>unP B=(unP y.2.1).map (y.1++ ·)∧y.1.length+y.2.1.length≤B.length∧(y.1=[]→y.2.1≠[]∧y.2.2=nx+1)∧(y.1≠[]→nx+2≤y.2.2)) (fun y=>⟨[(4, .str y.2.1),(7, .op (nx+1) 0),(2, .op nx 0)],bldN nx y.2.2 y.1,y.2.2+1⟩) (fun y=>y.2.1.length) ([],B,nx+1) ⟨by cases unP B<;>rfl,by simp,fun _=>⟨hB,rfl⟩,fun h=>absurd rfl h⟩ ?_ ?_
 ·simp only[bQ,reduceLeDiff,reduceEqDiff,reduceAdd,↓reduceIte,bldN,keyZ,m2]
  exact Nat.le_refl _
 ·rintro⟨acc,rest,r⟩ ⟨h1,h2,h3,h4⟩
  simp only at h1 h2 h3 h4
  by_cases hr:rest=[]
  ·subst hr
   rcases acc with _|⟨c,l⟩
   ·exact absurd rfl (h3 rfl).1
   have h5:=h4 (by simp)
   have r1:(r=nx+1)=False:=eq_false (by omega)
   have r2:(nx+1=r)=False:=eq_false (by omega)
   have r3:(r=nx)=False:=eq_false (by omega)
   have r4:(nx=r)=False:=eq_false (by omega)
   rw[unP_nil,hun] at h1
   simp only[Option.map_some,List.append_nil,Option.some.injEq] at h1
   subst h1
   simp only[List.length_cons,List.length_nil] at h2
   have hdl:(c::l).length≤B.length:=by simp only[List.length_cons];omega
   have r5:(r+1=nx)=False:=eq_false (by omega)
   have r6:(r+2=nx)=False:=eq_false (by omega)
   have r7:(nx=r+1)=False:=eq_false (by omega)
   have r8:(nx=r+2)=False:=eq_false (by omega)
   have r9:(r+1<nx)=False:=eq_false (by omega)
   have r10:(r+2<nx)=False:=eq_false (by omega)
   rcases hsh with ⟨n,e⟩|⟨cv,x,y⟩|⟨x⟩
   ·simp only[↓bD,bQ,reduceLeDiff,reduceEqDiff,reduceLT,reduceAdd,↓reduceIte,reduceCtorEq,UOaf,UOh,BMh,hU.eq_1,bu1,bldN,keyZ,m2,r1,r2,r3,r5,r6,hdc,ownT,kyP,kyO_2,kyH_2,koV]
    refine⟨by omega,RenC.intro [(nx,r+1),(nx+1,r+2),(nx+2,nx)] ⟨[(2, .op (nx+2) 0),(3, .i 0)],[(nx+2, .box 26 (koV 2 0 [none,some nx,some (nx+1),none,none])),(nx, .row 5 (.by n)),(nx+1, .row 5 (.by e))],nx+3⟩ ?_ ?_⟩<;>simp only[bQ,reduceLeDiff,reduceEqDiff,reduceLT,reduceAdd,↓reduceIte,reduceCtorEq,koV,m0,m1,m2,m3,r2,r4,r7,r8]<;>omega
   ·simp only[↓bD,bQ,reduceLeDiff,reduceEqDiff,reduceLT,reduceAdd,↓reduceIte,reduceCtorEq,UOaf,UOh,BMh,hU.eq_1,bu1,bldN,keyZ,m2,r1,r2,r3,r5,r6,hdc,ownT,kyP,kyO_3,kyH_3,koV]
    refine⟨by omega,RenC.intro [(nx,r+1),(nx+1,r+2),(nx+2,nx)] ⟨[(2, .op (nx+2) 0),(3, .i 0)],[(nx+2, .box 26 (koV 3 cv [none,none,none,some nx,some (nx+1)])),(nx, .row 5 (.by x)),(nx+1, .row 5 (.by y))],nx+3⟩ ?_ ?_⟩<;>simp only[bQ,reduceLeDiff,reduceEqDiff,reduceLT,reduceAdd,↓reduceIte,reduceCtorEq,koV,m0,m1,m2,m3,r2,r4,r7,r8]<;>omega
   ·simp only[↓bD,bQ,reduceLeDiff,reduceEqDiff,reduceLT,reduceAdd,↓reduceIte,reduceCtorEq,UOaf,UOh,BMh,hU.eq_1,bu1,bldN,keyZ,m2,r1,r2,r3,r5,hdc,ownT,kyP,kyO_4,kyH_4,koV]
    refine⟨by omega,RenC.intro [(nx,r+1),(nx+1,nx)] ⟨[(2, .op (nx+1) 0),(3, .i 0)],[(nx+1, .box 26 (koV 4 3 [none,none,none,some nx,none])),(nx, .row 5 (.by x))],nx+2⟩ ?_ ?_⟩<;>simp only[bQ,reduceLeDiff,reduceEqDiff,reduceLT,reduceAdd,↓reduceIte,koV,m0,m1,m2,m3,r4,r7]<;>omega
  ·have e1:(rest==[])=false:=beq_eq_false_iff_ne.2 hr
   have hlt:=cutN_lt hr
   have hle:=cutN_le rest
   rw[unP_ne hr,hun] at h1
   generalize hcut:cutN rest=q at *
   obtain⟨line,rst,en⟩:=q
   simp only at hlt hle h1
   rcases acc with _|⟨c,l⟩
   ·obtain rfl:r=nx+1:=(h3 rfl).2
    simp only[↓bD,bQ,reduceLeDiff,reduceEqDiff,reduceLT,reduceAdd,↓reduceIte,reduceCtorEq,UOaf,UOh,BMh,hU.eq_1,bu0,bu1,bldN,keyZ,m2,e1,hcut]
    refine⟨by omega,fun h hh=>by rw[h,decide_eq_true hh];rfl,fun h=> ?_,fun h=> ?_⟩
    ·rw[if_pos (show badL (line,rst,en)=true from h)] at h1
     exact absurd h1 (by simp)
    ·rw[if_neg (by rw[show badL (line,rst,en)=false from h];simp)] at h1
     simp only[Bool.or_eq_false_iff,beq_eq_false_iff_ne] at h
     obtain⟨c',l',rfl⟩: ∃c' l',line=c'::l':=by
      rcases line with _|⟨c',l'⟩
      ·exact absurd rfl h.1.1.2
      ·exact⟨_,_,rfl⟩
     refine⟨by omega,by simp only[List.length_nil] at *;omega,Again.intro (c'::l',rst,nx+2) ⟨?_,?_,fun h=>absurd h (by simp),fun _=>Nat.le_refl _⟩ hlt ?_⟩
     ·show unP B=(unP rst).map (c'::l'++ ·)
      rw[hun,h1]
      cases unP rst<;>rfl
     ·show(c'::l').length+rst.length≤B.length
      simp only[List.length_nil] at h2
      omega
     ·simp only[bQ,reduceLeDiff,reduceEqDiff,reduceAdd,↓reduceIte,reduceCtorEq,m2]
      first|rfl|exact Nat.le_refl _|trivial
   ·have h5:=h4 (by simp)
    have r1:(r=nx+1)=False:=eq_false (by omega)
    have r2:(nx+1=r)=False:=eq_false (by omega)
    have r3:(r=nx)=False:=eq_false (by omega)
    have r4:(nx=r)=False:=eq_false (by omega)
    have r5:(r+1=nx+1)=False:=eq_false (by omega)
    have r6:(nx+1=r+1)=False:=eq_false (by omega)
    have r7:(nx=r+1)=False:=eq_false (by omega)
    have r8:(r+1=nx)=False:=eq_false (by omega)
    simp only[↓bD,bQ,reduceLeDiff,reduceEqDiff,reduceLT,reduceAdd,↓reduceIte,reduceCtorEq,UOaf,UOh,BMh,hU.eq_1,bu0,bu1,bldN,keyZ,m2,e1,r1,r2,r3,hcut]
    refine⟨by omega,fun h hh=>by rw[h,decide_eq_true hh];rfl,fun h=> ?_,fun h=> ?_⟩
    ·rw[if_pos (show badL (line,rst,en)=true from h)] at h1
     exact absurd h1 (by simp)
    ·rw[if_neg (by rw[show badL (line,rst,en)=false from h];simp)] at h1
     simp only[Bool.or_eq_false_iff,beq_eq_false_iff_ne] at h
     obtain⟨c',l',rfl⟩: ∃c' l',line=c'::l':=by
      rcases line with _|⟨c',l'⟩
      ·exact absurd rfl h.1.1.2
      ·exact⟨_,_,rfl⟩
     refine⟨by omega,by omega,by simp only[List.length_cons] at *;omega,Again.intro (c::(l++c'::l'),rst,r+1) ⟨?_,?_,fun h=>absurd h (by simp),fun _=>by show nx+2≤r+1;omega⟩ hlt ?_⟩
     ·show unP B=(unP rst).map (c::(l++c'::l')++ ·)
      rw[hun,h1]
      cases unP rst<;>simp
     ·show(c::(l++c'::l')).length+rst.length≤B.length
      simp only[List.length_cons,List.length_append] at *
      omega
     ·simp only[bQ,reduceLeDiff,reduceEqDiff,reduceAdd,↓reduceIte,m2,r6,r8]
      first|rfl|exact Nat.le_refl _|trivial
end Go.Proofs.YtfengpdaocgcnaaGreatDoor
