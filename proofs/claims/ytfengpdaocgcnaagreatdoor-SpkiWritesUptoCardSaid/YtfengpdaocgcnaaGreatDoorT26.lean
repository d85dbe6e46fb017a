/- Whole numbers of any size (bignum): long division. -/
import Derived.Test.YtfengpdaocgcnaaGreatDoorT23
import Derived.Test.YtfengpdaocgcnaaGreatDoorT25
namespace Go.Proofs.YtfengpdaocgcnaaGreatDoor
open Nat (reduceMul reduceLeDiff reduceEqDiff reduceLT reduceAdd reduceSub reduceDiv)
open Int (reduceToNat reducePow)
open Go.RowKit
set_option linter.unusedSimpArgs false
set_option maxRecDepth 100000
theorem Fn.res_eq {P:Program} {J:Inv} {f:FuncId} {fr:Bool} {args:List V} {r r':V} (h:Fn P J f fr args r) (e:r=r'):Fn P J f fr args r':=by subst e;exact h
def SBdf:FuncId→List V→CR:=fun f args=>tab [(204,cW fun a=>cF [a.length≤1073741824,W32 a] false (wV (dg (vl a)))),
 (203,cW fun a=>cW fun b=>cF [Pr a,Pr b] false (.i (cmp3 (vl a) (vl b)))),
 (269,cW fun a=>cF [Pr a] false (wV (dg (vl a)))),
 (226,cW fun a=>cF [Pr a] false (.i (bl (vl a)))),
 (151,cW fun a=>cI .u64 fun n=>cF [0≤n,n<32,a.length≤67108864,W32 a] false (wV (dg (vl a*2^n.toNat)))),
 (279,cW fun a=>cI .u64 fun n=>cF [0≤n,n<32,a.length≤67108864,W32 a] false (wV (dg (vl a/2^n.toNat))))] noF f args
def SBd (J:Inv):Sig:=⟨J,sdf,SBdf,noH,0⟩
theorem SBd_ok (J:Inv):SigOk Tryz.prog (SBd J):= .plain (tab_ok (.c (.w fun a=> .z fun⟨c0,c1,_⟩=>(by have h:=btrim_fn J a c0;rwa [trim_dg c1] at h))<|
 .c (.w fun a=> .w fun b=> .z fun⟨c0,c1,_⟩=>bcmp_fn J a b c0 c1)<|
 .c (.w fun a=> .z fun⟨c0,_⟩=>Fn.res_eq (r':=wV (dg (vl a))) (twin_fn J a (by have:=c0.len;omega)) (by rw[←c0.eq]))<|
 .c (.w fun a=> .z fun⟨c0,_⟩=>length_fn J a c0)<|
 .c (.w fun a=> .i fun n=> .z fun⟨c0,_,c2,c3,_⟩=>(by have h:=left_fn J a n.toNat (by omega) c2 c3;rwa [Int.toNat_of_nonneg c0] at h))<|
 .c (.w fun a=> .i fun n=> .z fun⟨c0,_,c2,c3,_⟩=>(by have h:=right_fn J a n.toNat (by omega) c2 c3;rwa [Int.toNat_of_nonneg c0] at h))<| .n) noF_ok)
theorem dg_len_eq {n k:Nat} (h1:4294967296^k≤n) (h2:n<4294967296^(k+1)):(dg n).length=k+1:=by
 have h3:=dg_len h2
 rcases Nat.lt_or_ge (dg n).length (k+1) with h4|h4
 ·exfalso
  have h5:=dg_hi n
  have h6:4294967296^(dg n).length≤4294967296^k:=Nat.pow_le_pow_right (by omega) (by omega)
  omega
 ·omega
theorem bl_dg {y m:Nat} (hy:(dg y).length=m+2):bl y=32*(m+1)+bl ((dg y).getD (m+1) 0)∧(dg y).getD (m+1) 0≠0:=by
 have h0:y≠0:=by rintro rfl;rw[dg_zero] at hy;simp at hy
 have ht:=dg_getD_last h0
 rw[hy,show m+2-1=m+1 by omega] at ht
 have e:=bl_top (l:=(dg y).take (m+1)) ((W32_dg y).take _) ht
 rw[List.length_take,Nat.min_eq_left (by omega)] at e
 refine⟨?_,ht⟩
 rw[←e]
 congr 1
 rw[vl_snoc,List.length_take,Nat.min_eq_left (by omega)]
 have:=vl_take_succ (dg y) (m+1)
 rwa [show m+1+1=(dg y).length by omega,List.take_length,vl_dg] at this
noncomputable def dvA:Code:=(Tryz.f270).body.getD .skip
noncomputable def dvS5:Code:=iL (iR (iR (iR dvA)))
noncomputable def dvS8:Code:=iL (iR (iR (iR (iR dvA))))
noncomputable def dvX5:Code:=iC (iR dvS5)
noncomputable def dvX8:Code:=iC (iR dvS8)
noncomputable def dvM:Code:=iR (iR (iR (iR (iR dvA))))
theorem dvA_eq:(Tryz.f270).body=some (.seq (iL dvA) (.seq (iL (iR dvA)) (.seq (iL (iR (iR dvA))) (.seq (.seq (iL dvS5) (.cond (.tmp 39) dvX5 .skip)) (.seq (.seq (iL dvS8) (.cond (.tmp 54) dvX8 .skip)) dvM))))):=by kernel_rfl
def iB:Code→Code| .block _ c=>c|c=>c
def iW:Code→Code| .loop c=>c|c=>c
noncomputable def dvW:Code:=iL (iR (iR (iR (iR (iR (iR (iR (iR dvM))))))))
noncomputable def dvEnd:Code:=iR (iR (iR (iR (iR (iR (iR (iR (iR dvM))))))))
noncomputable def dvLB:Code:=iW (iB (iR dvW))
noncomputable def dvBB:Code:=iB (iL (iR dvLB))
noncomputable def dvR22:Code:=iL dvBB
noncomputable def dvR23:Code:=iL (iR dvBB)
noncomputable def dvEst:Code:=iL (iR (iR dvBB))
noncomputable def dvR:Code:=iR (iR (iR dvBB))
noncomputable def dvR28:Code:=iL dvR
noncomputable def dvSub:Code:=iL (iR dvR)
noncomputable def dvR37:Code:=iL (iR (iR dvR))
noncomputable def dvR38:Code:=iL (iR (iR (iR dvR)))
noncomputable def dvC39:Code:=iL (iR (iR (iR (iR dvR))))
noncomputable def dvR49:Code:=iR (iR (iR (iR (iR dvR))))
theorem dvM_eq:dvM= .seq (iL dvM) (.seq (iL (iR dvM)) (.seq (iL (iR (iR dvM))) (.seq (iL (iR (iR (iR dvM)))) (.seq (iL (iR (iR (iR (iR dvM))))) (.seq (iL (iR (iR (iR (iR (iR dvM)))))) (.seq (iL (iR (iR (iR (iR (iR (iR dvM))))))) (.seq (iL (iR (iR (iR (iR (iR (iR (iR dvM)))))))) (.seq (.seq (iL dvW) (.block 0 (.loop (.seq (iL dvLB) (.seq (.block 1 dvBB) (iR (iR dvLB))))))) dvEnd)))))))):=by kernel_rfl
theorem dvBB_eq:dvBB= .seq dvR22 (.seq dvR23 (.seq dvEst (.seq dvR28 (.seq dvSub (.seq dvR37 (.seq dvR38 (.seq dvC39 dvR49))))))):=by kernel_rfl
def dvE (s D m j:Nat):En:=[(10, .val (.int .u64 s)),(11,wV (dg D)),(12, .ro (.r 0)),(13, .i (m+2:Nat)),(15, .ro (.r 1)),(16, .val (.int .u64 ((dg D).getD (m+1) 0:Nat))),(17, .val (.int .u64 ((dg D).getD m 0:Nat))),(18, .i j)]
structure DvE (s D m j:Nat) (E:En):Prop where
 g10:E.get 10=some (.val (.int .u64 s))
 g11:E.get 11=some (.sq 1 (.val (.int .u32 0)) (wds (dg D)))
 g12:E.get 12=some (.ro (.r 0))
 g13:E.get 13=some (.val (.int .i64 (m+2:Nat)))
 g15:E.get 15=some (.ro (.r 1))
 g16:E.get 16=some (.val (.int .u64 ((dg D).getD (m+1) 0:Nat)))
 g17:E.get 17=some (.val (.int .u64 ((dg D).getD m 0:Nat)))
 g18:E.get 18=some (.val (.int .i64 j))
def dvH (L Q:List Nat):List (Nat×Ob):=[(0, .row 156 (wV L)),(1, .row 156 (wV Q))]
theorem dv_est (J:Inv) (s D m j:Nat) (L Q w:List Nat) (hlv:(dg D).length=m+2) (hm:m≤1000000) (hL:L.length≤2000000) (hj:j+(m+3)≤L.length) (wL:W32 L) (hw:w=seg L j (m+3)) (hlt:vl w<4294967296*D) (htop:2147483648≤(dg D).getD (m+1) 0)
  (E:En) (H:List (Nat×Ob)) (h0:Hroot H 0=some (.row 156 (.sq 1 (.val (.int .u32 0)) (wds L)))) (h1:Hroot H 1=some (.row 156 (.sq 1 (.val (.int .u32 0)) (wds Q)))) (hE:DvE s D m j E) (h20:E.get 20=some (.val (.int .u64 ((w.getD (m+2) 0*4294967296+w.getD (m+1) 0)/(dg D).getD (m+1) 0:Nat)))) (h21:E.get 21=some (.val (.int .u64 ((w.getD (m+2) 0*4294967296+w.getD (m+1) 0)%(dg D).getD (m+1) 0:Nat))))
  (K ret:S→Prop) (ex:List (Nat×(S→Prop))) (hK: ∀E' H',DvE s D m j E'→E'.get 20=some (.val (.int .u64 (est w (dg D):Nat)))→Hroot H' 0=some (.row 156 (.sq 1 (.val (.int .u32 0)) (wds L)))→Hroot H' 1=some (.row 156 (.sq 1 (.val (.int .u32 0)) (wds Q)))→K ⟨E',H',2⟩):vg Tryz.prog (SBd J) dvEst ⟨E,H,2⟩ ⟨K,ret,ex⟩:=by
 obtain⟨q1,q2,q3,q4,q5,q6,q7,q8⟩:=hE
 have ww:W32 w:=by rw[hw];exact seg_w wL _ _
 have hl:w.length=m+3:=by rw[hw];exact seg_len hj
 have wv:=W32_dg D
 have b0:=ww.get (m+2)
 have b1:=ww.get (m+1)
 have b2:=ww.get m
 have c1:=wv.get (m+1)
 have c2:=wv.get m
 have hwm:L.getD (j+m) 0=w.getD m 0:=by rw[hw,seg_get (by omega)]
 have hest:est w (dg D)=estF ((dg D).getD (m+1) 0) ((dg D).getD m 0) (w.getD m 0) ((w.getD (m+2) 0*4294967296+w.getD (m+1) 0)/(dg D).getD (m+1) 0) ((w.getD (m+2) 0*4294967296+w.getD (m+1) 0)%(dg D).getD (m+1) 0):=by
  unfold est topW
  rw[hlv];rfl
 have hd0:(w.getD (m+2) 0*4294967296+w.getD (m+1) 0)/(dg D).getD (m+1) 0≤4294967297:=by
  have h1:=est_facts (u:=w) (v:=dg D) hlv hl ww wv (by rw[vl_dg];exact hlt) htop
  refine Nat.le_of_lt_succ (Nat.div_lt_of_lt_mul ?_)
  rw[Nat.mul_comm]
  omega
 have hr0:(w.getD (m+2) 0*4294967296+w.getD (m+1) 0)%(dg D).getD (m+1) 0<(dg D).getD (m+1) 0:=Nat.mod_lt _ (by omega)
 rw[hest] at hK
 generalize (w.getD (m+2) 0*4294967296+w.getD (m+1) 0)/(dg D).getD (m+1) 0=d0 at *
 generalize (w.getD (m+2) 0*4294967296+w.getD (m+1) 0)%(dg D).getD (m+1) 0=r0 at *
 generalize hE:estF ((dg D).getD (m+1) 0) ((dg D).getD m 0) (w.getD m 0) d0 r0=e0 at *
 simp only[dvEst,dvBB,dvLB,dvW,dvM,dvA,iR,iL,iB,iW,Tryz.f270,Option.getD_some]
 simp only[bQ,SBd]
 refine LoopC.intro (α:=Nat×Nat) (fun p=>p.2<4294967296∧p.1≤4294967297∧estF ((dg D).getD (m+1) 0) ((dg D).getD m 0) (w.getD m 0) p.1 p.2=e0) (fun p=>⟨(20, .val (.int .u64 p.1))::(21, .val (.int .u64 p.2))::dvE s D m j,dvH L Q,2⟩) (fun p=>p.1) (d0,r0) ⟨by simp only;omega,hd0,hE⟩ ?_ ?_
 ·simp only[bQ,reduceLeDiff,dvE,dvH,q1,q2,q3,q4,q5,q6,q7,q8,h20,h21,h0,h1]
 ·rintro⟨d,r⟩ ⟨g1,g2,g3⟩
  simp only at g1 g2 g3
  have t1:((j:Int)+(m+2:Nat)-2).toNat=j+m:=by omega
  simp only[bQ,reduceLeDiff,reduceEqDiff,reduceLT,↓reduceIte,reduceCtorEq,reduceToNat,reducePow,dvE,dvH,t1,hwm]
  have hdv:d*(dg D).getD m 0<18446744073709551616:=by
   have:=Nat.mul_le_mul g2 (show(dg D).getD m 0≤4294967295 by omega)
   omega
  have e1:bt .or .u64 (wr .u64 ((r:Int)*4294967296)) (wr .u64 (w.getD m 0:Nat))=((r*4294967296+w.getD m 0:Nat):Int):=by
   rw[wr64n (show w.getD m 0<18446744073709551616 by omega),show(r:Int)*4294967296=((2^32*r:Nat):Int) by omega,wr64n (by omega),bt_eq,bits_or64 (by omega) (by omega),Nat.or_comm,or_add (by omega)]
   omega
  have e2:wr .u64 ((d:Int)*((dg D).getD m 0:Nat))=((d*(dg D).getD m 0:Nat):Int):=by
   rw[←Int.natCast_mul,wr64n hdv]
  have e3:wr .u64 ((r:Int)+((dg D).getD (m+1) 0:Nat))=((r+(dg D).getD (m+1) 0:Nat):Int):=by
   rw[←Int.natCast_add,wr64n (by omega)]
  rw[e1,e2,e3]
  refine⟨fun _=>by omega,fun _=>by constructor<;>omega,fun _=>by constructor<;>omega,fun _=>by omega,fun _=>by omega,fun _=>by omega,fun hb=> ?_,fun hb=> ?_⟩
  ·have hc:4294967296≤d∨r*4294967296+w.getD m 0<d*(dg D).getD m 0:=by
    simp only[Bool.or_eq_true,decide_eq_true_eq] at hb
    rcases hb with hb|hb
    ·exact .inl (by omega)
    ·exact .inr (Int.ofNat_lt.1 hb)
   obtain⟨d,rfl⟩: ∃k,d=k+1:=by
    cases d with
    |zero=>rw[Nat.zero_mul] at hc;omega
    |succ k=>exact⟨k,rfl⟩
   rw[estF,if_pos hc] at g3
   have e4:wr .u64 (((d+1:Nat):Int)-1)=(d:Nat):=by rw[show((d+1:Nat):Int)-1=(d:Nat) by omega,wr64n (by omega)]
   refine⟨fun hk=> ?_,fun hk=> ?_⟩
   ·rw[if_pos (by have:=of_decide_eq_true hk;omega)] at g3
    rw[e4,g3]
    exact hK _ _ ⟨rfl,rfl,rfl,rfl,rfl,rfl,rfl,rfl⟩ rfl rfl rfl
   ·have hk: ¬4294967296≤r+(dg D).getD (m+1) 0:=by have:=of_decide_eq_false hk;omega
    rw[if_neg hk] at g3
    refine Again.intro (d,r+(dg D).getD (m+1) 0) ⟨by simp only;omega,by simp only;omega,g3⟩ (by simp only;omega) ?_
    simp only[bQ,reduceLeDiff,reduceEqDiff,↓reduceIte,reduceCtorEq]
    rw[e4]
  ·have hc: ¬(4294967296≤d∨r*4294967296+w.getD m 0<d*(dg D).getD m 0):=by
    simp only[Bool.or_eq_false_iff,decide_eq_false_iff_not] at hb
    rintro(h|h)
    ·exact hb.1 (by omega)
    ·exact hb.2 (Int.ofNat_lt.2 h)
   have hde:d=e0:=by
    cases d with
    |zero=>rw[estF] at g3;exact g3
    |succ d=>rw[estF,if_neg hc] at g3;exact g3
   rw[hde]
   exact hK _ _ ⟨rfl,rfl,rfl,rfl,rfl,rfl,rfl,rfl⟩ rfl rfl rfl
theorem dv_sub (J:Inv) (s D m j g:Nat) (L Q w:List Nat) (hlv:(dg D).length=m+2) (hm:m≤1000000) (hL:L.length≤2000000) (hj:j+(m+3)≤L.length) (wL:W32 L) (hw:w=seg L j (m+3)) (hg:g<4294967296)
  (E:En) (H:List (Nat×Ob)) (h0:Hroot H 0=some (.row 156 (.sq 1 (.val (.int .u32 0)) (wds L)))) (h1:Hroot H 1=some (.row 156 (.sq 1 (.val (.int .u32 0)) (wds Q)))) (hE:DvE s D m j E) (h20:E.get 20=some (.val (.int .u64 (g:Nat)))) (h22:E.get 22=some (.val (.int .u64 0))) (h23:E.get 23=some (.val (.int .u64 0)))
  (K ret:S→Prop) (ex:List (Nat×(S→Prop))) (hK: ∀E' H' o d,DvE s D m j E'→E'.get 20=some (.val (.int .u64 (g:Nat)))→E'.get 22=some (.val (.int .u64 (cyM (dg D) g (m+2):Nat)))→E'.get 23=some (.val (.int .u64 (d:Nat)))→SubM w (dg D) g o (m+2) d→Hroot H' 0=some (.row 156 (.sq 1 (.val (.int .u32 0)) (wds (putS L j o))))→Hroot H' 1=some (.row 156 (.sq 1 (.val (.int .u32 0)) (wds Q)))→K ⟨E',H',2⟩):vg Tryz.prog (SBd J) dvSub ⟨E,H,2⟩ ⟨K,ret,ex⟩:=by
 obtain⟨q1,q2,q3,q4,q5,q6,q7,q8⟩:=hE
 have ww:W32 w:=by rw[hw];exact seg_w wL _ _
 have hl:w.length=m+3:=by rw[hw];exact seg_len hj
 have wv:=W32_dg D
 simp only[dvSub,dvR,dvBB,dvLB,dvW,dvM,dvA,iR,iL,iB,iW,Tryz.f270,Option.getD_some]
 simp only[bQ,SBd]
 refine LoopC.intro (α:=Nat×List Nat×Nat) (fun p=>p.1≤m+2∧SubM w (dg D) g p.2.1 p.1 p.2.2) (fun p=>⟨(20, .val (.int .u64 g))::(22, .val (.int .u64 (cyM (dg D) g p.1:Nat)))::(23, .val (.int .u64 p.2.2))::(24, .i p.1)::dvE s D m j,dvH (putS L j p.2.1) Q,2⟩) (fun p=>m+2-p.1) (0,[],0) ⟨Nat.zero_le _, .zero _ _ _⟩ ?_ ?_
 ·simp only[bQ,reduceLeDiff,reduceEqDiff,↓reduceIte,dvE,dvH,q1,q2,q3,q4,q5,q6,q7,q8,h20,h22,h23,h0,h1]
  rw[putS_nil]
  refine⟨⟨?_,rfl,rfl⟩,rfl⟩
  simp[cyM,vl]
 ·rintro⟨i,o,d⟩ ⟨g1,g2⟩
  have g2:SubM w (dg D) g o i d:=g2
  have g1:i≤m+2:=g1
  have g3:=g2.len
  have t1:((i:Int)+j).toNat=j+i:=by omega
  have p1:(putS L j o).length=L.length:=putS_len (by omega)
  have p2:(putS L j o).getD (j+i) 0=L.getD (j+i) 0:=putS_get (by omega) (by omega)
  simp only[↓bD,bQ,reduceLeDiff,reduceEqDiff,reduceLT,↓reduceIte,reduceCtorEq,reduceToNat,reducePow,dvE,dvH,t1,p1,p2,hlv]
  have g4:=g2.d1
  refine⟨fun hi=> ?_,fun hi=> ?_⟩
  ·have hi:i<m+2:=by have:=of_decide_eq_true hi;omega
   have b1:=wv.get i
   have b2:=wL.get (j+i)
   have hcy:=cyM_le wv g i
   have hst:=g2.step ww
   have hc:=cyM_succ (dg D) g i
   have hwi:w.getD i 0=L.getD (j+i) 0:=by rw[hw,seg_get (by omega)]
   rw[hwi] at hst
   have hvd:(dg D).getD i 0*g≤4294967295*4294967295:=Nat.mul_le_mul (by omega) (by omega)
   have hsum:wr .u64 ((cyM (dg D) g i:Nat)+wr .u64 ((g:Int)*wr .u64 ((dg D).getD i 0:Nat)))=((cyM (dg D) g i+(dg D).getD i 0*g:Nat):Int):=by
    rw[wr64n (show(dg D).getD i 0<18446744073709551616 by omega),←Int.natCast_mul,Nat.mul_comm g,wr64n (by omega),←Int.natCast_add,wr64n (by omega)]
   refine⟨by omega,by omega,by constructor<;>omega,by omega,by omega,by omega,by constructor<;>omega,by omega,by omega,by omega,by omega,by omega,by constructor<;>omega,Again.intro (i+1,o++[subW (L.getD (j+i) 0) (cyM (dg D) g i+(dg D).getD i 0*g) d],brw (L.getD (j+i) 0) ((cyM (dg D) g i+(dg D).getD i 0*g)%4294967296+d)) ⟨hi,hst⟩ (by show m+2-(i+1)<m+2-i;omega) ?_⟩
   simp only[bQ,reduceLeDiff,reduceEqDiff,↓reduceIte,reduceCtorEq]
   rw[hsum]
   have k0:wr .u64 (wr .u64 (wr .u64 (L.getD (j+i) 0:Nat)-wr .u64 (wr .u32 ((cyM (dg D) g i+(dg D).getD i 0*g:Nat):Int)))-(d:Nat))=((L.getD (j+i) 0:Nat)-(((cyM (dg D) g i+(dg D).getD i 0*g)%4294967296:Nat):Int)-(d:Nat))%18446744073709551616:=by
    rw[wr64n (show L.getD (j+i) 0<18446744073709551616 by omega),wr32m,wr64n (by omega),wr_eq,wr_eq]
    show((_:Int)%18446744073709551616-_)%18446744073709551616=_
    omega
   have k1:w32 (wr .u64 (wr .u64 (wr .u64 (L.getD (j+i) 0:Nat)-wr .u64 (wr .u32 ((cyM (dg D) g i+(dg D).getD i 0*g:Nat):Int)))-(d:Nat)))=subW (L.getD (j+i) 0) (cyM (dg D) g i+(dg D).getD i 0*g) d:=by
    rw[k0];unfold w32 subW;omega
   have k2:wr .u64 (wr .u64 (wr .u64 (L.getD (j+i) 0:Nat)-wr .u64 (wr .u32 ((cyM (dg D) g i+(dg D).getD i 0*g:Nat):Int)))-(d:Nat))/9223372036854775808=((brw (L.getD (j+i) 0) ((cyM (dg D) g i+(dg D).getD i 0*g)%4294967296+d):Nat):Int):=by
    rw[k0];unfold brw;split<;>omega
   have k3: ∀z,(putS L j o).set (j+i) z=putS L j (o++[z]):=fun z=>by rw[←g3];exact putS_set (by omega) z
   rw[k1,k2,k3]
   refine⟨⟨?_,rfl,by omega⟩,rfl⟩
   rw[hc];omega
  ·have hi:i=m+2:=by have:=of_decide_eq_false hi;omega
   subst hi
   exact hK _ _ o d ⟨rfl,rfl,rfl,rfl,rfl,rfl,rfl,rfl⟩ rfl rfl rfl g2 rfl rfl
theorem dv_top (J:Inv) (s D m j g d:Nat) (L Q o:List Nat) (hm:m≤1000000) (hL:L.length≤2000000) (hj:j+(m+3)≤L.length) (ho:o.length=m+2) (wL:W32 L) (C:Nat) (hC:C<4294967296) (hd:d≤1)
  (E:En) (H:List (Nat×Ob)) (h0:Hroot H 0=some (.row 156 (.sq 1 (.val (.int .u32 0)) (wds (putS L j o))))) (h1:Hroot H 1=some (.row 156 (.sq 1 (.val (.int .u32 0)) (wds Q)))) (hE:DvE s D m j E) (h20:E.get 20=some (.val (.int .u64 (g:Nat)))) (h22:E.get 22=some (.val (.int .u64 (C:Nat)))) (h23:E.get 23=some (.val (.int .u64 (d:Nat))))
  (c2:Code) (K ret:S→Prop) (ex:List (Nat×(S→Prop))) (hK: ∀E' H',DvE s D m j E'→E'.get 20=some (.val (.int .u64 (g:Nat)))→(∃z:Int,E'.get 26=some (.val (.int .u64 z))∧z/9223372036854775808=((brw (L.getD (j+(m+2)) 0) (C+d):Nat):Int))→Hroot H' 0=some (.row 156 (.sq 1 (.val (.int .u32 0)) (wds (putS L j (o++[(L.getD (j+(m+2)) 0+8589934592-C-d)%4294967296])))))→Hroot H' 1=some (.row 156 (.sq 1 (.val (.int .u32 0)) (wds Q)))→vg Tryz.prog (SBd J) c2 ⟨E',H',2⟩ ⟨K,ret,ex⟩):vg Tryz.prog (SBd J) (.seq dvR37 (.seq dvR38 c2)) ⟨E,H,2⟩ ⟨K,ret,ex⟩:=by
 obtain⟨q1,q2,q3,q4,q5,q6,q7,q8⟩:=hE
 have t1:((j:Int)+(m+2:Nat)).toNat=j+(m+2):=by omega
 have p1:(putS L j o).length=L.length:=putS_len (by omega)
 have p2:(putS L j o).getD (j+(m+2)) 0=L.getD (j+(m+2)) 0:=putS_get (by omega) (by omega)
 simp only[dvR37,dvR38,dvR,dvBB,dvLB,dvW,dvM,dvA,iR,iL,iB,iW,Tryz.f270,Option.getD_some]
 simp only[bQ,reduceEqDiff,reduceLT,↓reduceIte,reduceCtorEq,SBd,q3,q4,q8,h22,h23,h0,t1,p1,p2]
 have b2:=wL.get (j+(m+2))
 generalize hx:L.getD (j+(m+2)) 0=x at *
 have k0:wr .u64 (wr .u64 (wr .u64 (x:Nat)-(C:Nat))-(d:Nat))=((x:Nat)-(C:Nat)-(d:Nat):Int)%18446744073709551616:=by
  rw[wr64n (show x<18446744073709551616 by omega),wr_eq,wr_eq]
  show((_:Int)%18446744073709551616-_)%18446744073709551616=_
  omega
 have k1:w32 (wr .u64 (wr .u64 (wr .u64 (x:Nat)-(C:Nat))-(d:Nat)))=(x+8589934592-C-d)%4294967296:=by rw[k0];unfold w32;omega
 have k2:wr .u64 (wr .u64 (wr .u64 (x:Nat)-(C:Nat))-(d:Nat))/9223372036854775808=((brw x (C+d):Nat):Int):=by rw[k0];unfold brw;split<;>omega
 have k3: ∀z,(putS L j o).set (j+(m+2)) z=putS L j (o++[z]):=fun z=>by rw[←ho];exact putS_set (by omega) z
 rw[k1,k3]
 refine⟨by constructor<;>omega,by omega,by omega,by omega,by constructor<;>omega,by omega,by omega,by omega,hK _ _ ⟨?_,?_,?_,?_,?_,?_,?_,?_⟩ ?_ ⟨_,?_,k2⟩ ?_ ?_⟩
 all_goals simp only[bQ,reduceEqDiff,↓reduceIte,reduceCtorEq,q1,q2,q3,q4,q5,q6,q7,q8,h20,h1]
theorem dv_back (J:Inv) (s D m j g e:Nat) (M Q w:List Nat) (hlv:(dg D).length=m+2) (hm:m≤1000000) (hM:M.length≤2000000) (hj:j+(m+3)≤M.length) (wM:W32 M) (hw:w=seg M j (m+3)) (hg:g<4294967296) (hge:e=1→0<g) (he:e≤1)
  (E:En) (H:List (Nat×Ob)) (h0:Hroot H 0=some (.row 156 (.sq 1 (.val (.int .u32 0)) (wds M)))) (h1:Hroot H 1=some (.row 156 (.sq 1 (.val (.int .u32 0)) (wds Q)))) (hE:DvE s D m j E) (h20:E.get 20=some (.val (.int .u64 (g:Nat)))) (h26: ∃z:Int,E.get 26=some (.val (.int .u64 z))∧z/9223372036854775808=((e:Nat):Int))
  (c2:Code) (K ret:S→Prop) (ex:List (Nat×(S→Prop)))
  (hK0:e=0→ ∀E' H',DvE s D m j E'→E'.get 20=some (.val (.int .u64 (g:Nat)))→Hroot H' 0=some (.row 156 (.sq 1 (.val (.int .u32 0)) (wds M)))→Hroot H' 1=some (.row 156 (.sq 1 (.val (.int .u32 0)) (wds Q)))→vg Tryz.prog (SBd J) c2 ⟨E',H',2⟩ ⟨K,ret,ex⟩)
  (hK1:e=1→ ∀E' H' o c,DvE s D m j E'→E'.get 20=some (.val (.int .u64 (g-1:Nat)))→AddI w (dg D) o (m+2) c→Hroot H' 0=some (.row 156 (.sq 1 (.val (.int .u32 0)) (wds (putS M j (o++[(w.getD (m+2) 0+c)%4294967296])))))→Hroot H' 1=some (.row 156 (.sq 1 (.val (.int .u32 0)) (wds Q)))→vg Tryz.prog (SBd J) c2 ⟨E',H',2⟩ ⟨K,ret,ex⟩):vg Tryz.prog (SBd J) (.seq dvC39 c2) ⟨E,H,2⟩ ⟨K,ret,ex⟩:=by
 obtain⟨q1,q2,q3,q4,q5,q6,q7,q8⟩:=hE
 obtain⟨z,h26,hz⟩:=h26
 have ww:W32 w:=by rw[hw];exact seg_w wM _ _
 have hl:w.length=m+3:=by rw[hw];exact seg_len hj
 have wv:=W32_dg D
 simp only[dvC39,dvR,dvBB,dvLB,dvW,dvM,dvA,iR,iL,iB,iW,Tryz.f270,Option.getD_some]
 simp only[↓bD,bQ,reduceLeDiff,reduceEqDiff,↓reduceIte,reduceToNat,reducePow,SBd,h20,h26,hz]
 refine⟨by omega,fun hb=> ?_,fun hb=> ?_⟩
 ·have he1:e=1:=by rw[Bool.not_eq_true',beq_eq_false_iff_ne] at hb;omega
  have hg0:=hge he1
  have e4:wr .u64 ((g:Int)-1)=((g-1:Nat):Int):=by rw[show(g:Int)-1=((g-1:Nat):Int) by omega,wr64n (by omega)]
  rw[e4]
  refine LoopC.intro (α:=Nat×List Nat×Nat) (fun p=>p.1≤m+2∧AddI w (dg D) p.2.1 p.1 p.2.2) (fun p=>⟨(20, .val (.int .u64 (g-1:Nat)))::(22, .val (.int .u64 p.2.2))::(27, .i p.1)::dvE s D m j,dvH (putS M j p.2.1) Q,2⟩) (fun p=>m+2-p.1) (0,[],0) ⟨Nat.zero_le _, .zero _ _⟩ ?_ ?_
  ·simp only[bQ,reduceLeDiff,reduceEqDiff,↓reduceIte,dvE,dvH,q1,q2,q3,q4,q5,q6,q7,q8,h0,h1,putS_nil]
   exact⟨rfl,rfl⟩
  ·rintro⟨i,o,c⟩ ⟨g1,g2⟩
   have g2:AddI w (dg D) o i c:=g2
   have g1:i≤m+2:=g1
   have g3:=g2.len
   have g4:=g2.c1
   have t1:((i:Int)+j).toNat=j+i:=by omega
   have t2:((j:Int)+(m+2:Nat)).toNat=j+(m+2):=by omega
   have p1:(putS M j o).length=M.length:=putS_len (by omega)
   have p2:(putS M j o).getD (j+i) 0=M.getD (j+i) 0:=putS_get (by omega) (by omega)
   have p3:(putS M j o).getD (j+(m+2)) 0=M.getD (j+(m+2)) 0:=putS_get (by omega) (by omega)
   simp only[↓bD,bQ,reduceLeDiff,reduceEqDiff,reduceLT,↓reduceIte,reduceCtorEq,reduceToNat,reducePow,dvE,dvH,t1,t2,p1,p2,p3,hlv]
   have b1:=wv.get i
   have b2:=wM.get (j+i)
   have b3:=wM.get (j+(m+2))
   have hst:=g2.step ww wv
   have k3: ∀z,(putS M j o).set (j+i) z=putS M j (o++[z]):=fun z=>by rw[←g3];exact putS_set (by omega) z
   refine⟨fun hi=> ?_,fun hi=> ?_⟩
   ·have hi:i<m+2:=by have:=of_decide_eq_true hi;omega
    have hwi:w.getD i 0=M.getD (j+i) 0:=by rw[hw,seg_get (by omega)]
    rw[hwi] at hst
    have hs:wr .u64 ((c:Int)+wr .u64 (wr .u64 (M.getD (j+i) 0:Nat)+wr .u64 ((dg D).getD i 0:Nat)))=((c+M.getD (j+i) 0+(dg D).getD i 0:Nat):Int):=by
     rw[wr64n (show M.getD (j+i) 0<18446744073709551616 by omega),wr64n (show(dg D).getD i 0<18446744073709551616 by omega),←Int.natCast_add,wr64n (by omega),←Int.natCast_add,wr64n (by omega),Nat.add_assoc]
    refine⟨by constructor<;>omega,by omega,by omega,by omega,by omega,by omega,by constructor<;>omega,by omega,by omega,by omega,by omega,by constructor<;>omega,Again.intro (i+1,o++[(c+M.getD (j+i) 0+(dg D).getD i 0)%4294967296],(c+M.getD (j+i) 0+(dg D).getD i 0)/4294967296) ⟨hi,hst⟩ (by show m+2-(i+1)<m+2-i;omega) ?_⟩
    simp only[bQ,reduceLeDiff,reduceEqDiff,↓reduceIte,reduceCtorEq]
    rw[hs,w32_nat,k3]
    exact⟨⟨by omega,by omega⟩,by rw[Nat.add_assoc]⟩
   ·have hi:i=m+2:=by have:=of_decide_eq_false hi;omega
    subst hi
    have hwt:w.getD (m+2) 0=M.getD (j+(m+2)) 0:=by rw[hw,seg_get (by omega)]
    have hs:w32 ((M.getD (j+(m+2)) 0:Nat)+wr .u32 (c:Nat))=(w.getD (m+2) 0+c)%4294967296:=by
     rw[wr32n (show c<4294967296 by omega),←Int.natCast_add,w32_nat,hwt]
    rw[hs,k3]
    refine⟨by constructor<;>omega,by omega,by omega,by omega,by omega,by omega,by omega,?_⟩
    exact hK1 he1 _ _ o c ⟨rfl,rfl,rfl,rfl,rfl,rfl,rfl,rfl⟩ rfl g2 rfl rfl
 ·have he0:e=0:=by rw[Bool.not_eq_false',beq_iff_eq] at hb;omega
  refine hK0 he0 _ _ ⟨?_,?_,?_,?_,?_,?_,?_,?_⟩ ?_ ?_ ?_
  all_goals simp only[bQ,reduceEqDiff,↓reduceIte,q1,q2,q3,q4,q5,q6,q7,q8,h20,h0,h1]
theorem putS_putS {l o p:List Nat} {a:Nat} (h:a+o.length≤l.length) (hp:p.length=o.length):putS (putS l a o) a p=putS l a p:=by
 unfold putS
 have h1:(l.take a).length=a:=by rw[List.length_take];omega
 rw[List.append_assoc (l.take a),List.take_append_of_le_length (by omega),List.take_take,Nat.min_self]
 congr 1
 rw[List.drop_append,h1,List.drop_eq_nil_of_le (by omega),List.nil_append,show a+p.length-a=o.length by omega,List.drop_left,hp]
theorem seg_putS {l o:List Nat} {a n:Nat} (h:a+o.length≤l.length) (hn:o.length=n):seg (putS l a o) a n=o:=by
 unfold seg putS
 have h1:(l.take a).length=a:=by rw[List.length_take];omega
 rw[List.append_assoc,List.drop_append,h1,List.drop_eq_nil_of_le (by omega),List.nil_append,Nat.sub_self,List.drop_zero,←hn,List.take_left]
theorem fw_is {o:List Nat} {n W y:Nat} (hw:W32 o) (hl:o.length=n) (hv:vl o=W-y) (hy:y≤W):o=fw n (W+4294967296^n-y):=by
 subst hl
 refine fw_of _ hw ?_
 have:=vl_lt hw
 rw[show W+4294967296^o.length-y=W-y+4294967296^o.length by omega,Nat.add_mod_right,Nat.mod_eq_of_lt (by omega),hv]
theorem fw_val {w:List Nat} {n y:Nat} (ww:W32 w) (hl:w.length=n) (hy:y≤vl w):vl (fw n y)=y:=by
 subst hl
 rw[fw_vl,Nat.mod_eq_of_lt (Nat.lt_of_le_of_lt hy (vl_lt ww))]
theorem dv_end (J:Inv) (s D m j lq q:Nat) (L Q o3:List Nat) (hlq:(List.replicate (j+1) 0++Q).length=lq) (hq:q<4294967296)
  (E:En) (H:List (Nat×Ob)) (h0:Hroot H 0=some (.row 156 (.sq 1 (.val (.int .u32 0)) (wds (putS L j o3))))) (h1:Hroot H 1=some (.row 156 (.sq 1 (.val (.int .u32 0)) (wds (List.replicate (j+1) 0++Q))))) (hE:DvE s D m j E) (g20:E.get 20=some (.val (.int .u64 (q:Nat))))
  (K ret:S→Prop) (ex:List (Nat×(S→Prop))) (hK: ∀E' H',DvE s D m j E'→Hroot H' 0=some (.row 156 (.sq 1 (.val (.int .u32 0)) (wds (putS L j o3))))→Hroot H' 1=some (.row 156 (.sq 1 (.val (.int .u32 0)) (wds (List.replicate j 0++q::Q))))→K ⟨E',H',2⟩):vg Tryz.prog (SBd J) dvR49 ⟨E,H,2⟩ ⟨K,ret,ex⟩:=by
 obtain⟨q1,q2,q3,q4,q5,q6,q7,q8⟩:=hE
 simp only[dvR49,dvR,dvBB,dvLB,dvW,dvM,dvA,iR,iL,iB,iW,Tryz.f270,Option.getD_some]
 simp only[bQ,reduceEqDiff,reduceLT,↓reduceIte,reduceCtorEq,SBd,q5,q8,g20,h1,hlq]
 have hjq:j<lq:=by rw[←hlq,List.length_append,List.length_replicate];omega
 have hw32:w32 (q:Int)=q:=by rw[w32_nat,Nat.mod_eq_of_lt hq]
 refine⟨by omega,by omega,hjq,hK _ _ ⟨?_,?_,?_,?_,?_,?_,?_,?_⟩ ?_ ?_⟩
 all_goals simp only[bQ,reduceEqDiff,↓reduceIte,reduceCtorEq,q1,q2,q3,q4,q5,q6,q7,q8,h0]
 rw[hw32,rep_set]
theorem dv_28 (J:Inv) (s D m j g:Nat) (L Q:List Nat) (E:En) (H:List (Nat×Ob)) (h0:Hroot H 0=some (.row 156 (.sq 1 (.val (.int .u32 0)) (wds L)))) (h1:Hroot H 1=some (.row 156 (.sq 1 (.val (.int .u32 0)) (wds Q)))) (hE:DvE s D m j E) (g20:E.get 20=some (.val (.int .u64 (g:Nat)))) (c2:Code) (K ret:S→Prop) (ex:List (Nat×(S→Prop)))
  (h: ∀E' H',DvE s D m j E'→E'.get 20=some (.val (.int .u64 (g:Nat)))→E'.get 22=some (.val (.int .u64 0))→E'.get 23=some (.val (.int .u64 0))→Hroot H' 0=some (.row 156 (.sq 1 (.val (.int .u32 0)) (wds L)))→Hroot H' 1=some (.row 156 (.sq 1 (.val (.int .u32 0)) (wds Q)))→vg Tryz.prog (SBd J) c2 ⟨E',H',2⟩ ⟨K,ret,ex⟩):vg Tryz.prog (SBd J) (.seq dvR28 c2) ⟨E,H,2⟩ ⟨K,ret,ex⟩:=by
 obtain⟨q1,q2,q3,q4,q5,q6,q7,q8⟩:=hE
 simp only[dvR28,dvR,dvBB,dvLB,dvW,dvM,dvA,iR,iL,iB,iW,Tryz.f270,Option.getD_some]
 simp only[bQ,SBd]
 refine h _ _ ⟨?_,?_,?_,?_,?_,?_,?_,?_⟩ ?_ ?_ ?_ ?_ ?_
 all_goals simp only[bQ,reduceEqDiff,↓reduceIte,q1,q2,q3,q4,q5,q6,q7,q8,g20,h0,h1]
theorem dv_head (J:Inv) (s D m j:Nat) (L Q w:List Nat) (hm:m≤1000000) (hL:L.length≤2000000) (hj:j+(m+3)≤L.length) (wL:W32 L) (hw:w=seg L j (m+3)) (htop:2147483648≤(dg D).getD (m+1) 0)
  (E:En) (H:List (Nat×Ob)) (h0:Hroot H 0=some (.row 156 (.sq 1 (.val (.int .u32 0)) (wds L)))) (h1:Hroot H 1=some (.row 156 (.sq 1 (.val (.int .u32 0)) (wds Q)))) (hE:DvE s D m j E) (c2:Code) (K ret:S→Prop) (ex:List (Nat×(S→Prop)))
  (h: ∀E' H',DvE s D m j E'→E'.get 20=some (.val (.int .u64 ((w.getD (m+2) 0*4294967296+w.getD (m+1) 0)/(dg D).getD (m+1) 0:Nat)))→E'.get 21=some (.val (.int .u64 ((w.getD (m+2) 0*4294967296+w.getD (m+1) 0)%(dg D).getD (m+1) 0:Nat)))→Hroot H' 0=some (.row 156 (.sq 1 (.val (.int .u32 0)) (wds L)))→Hroot H' 1=some (.row 156 (.sq 1 (.val (.int .u32 0)) (wds Q)))→vg Tryz.prog (SBd J) c2 ⟨E',H',2⟩ ⟨K,ret,ex⟩):vg Tryz.prog (SBd J) (.seq dvR22 (.seq dvR23 c2)) ⟨E,H,2⟩ ⟨K,ret,ex⟩:=by
 obtain⟨q1,q2,q3,q4,q5,q6,q7,q8⟩:=hE
 have t1:((j:Int)+(m+2:Nat)).toNat=j+(m+2):=by omega
 have t2:((j:Int)+(m+2:Nat)-1).toNat=j+(m+1):=by omega
 have w0:w.getD (m+2) 0=L.getD (j+(m+2)) 0:=by rw[hw,seg_get (by omega)]
 have w1:w.getD (m+1) 0=L.getD (j+(m+1)) 0:=by rw[hw,seg_get (by omega)]
 rw[w0,w1] at h
 have b0:=wL.get (j+(m+2))
 have b1:=wL.get (j+(m+1))
 have eT:bt .or .u64 (wr .u64 (wr .u64 (L.getD (j+(m+2)) 0:Nat)*4294967296)) (wr .u64 (L.getD (j+(m+1)) 0:Nat))=((L.getD (j+(m+2)) 0*4294967296+L.getD (j+(m+1)) 0:Nat):Int):=by
  rw[wr64n (by omega),wr64n (show L.getD (j+(m+1)) 0<18446744073709551616 by omega),show((L.getD (j+(m+2)) 0:Nat):Int)*4294967296=((2^32*L.getD (j+(m+2)) 0:Nat):Int) by omega,wr64n (by omega),bt_eq,bits_or64 (by omega) (by omega),Nat.or_comm,or_add (by omega)]
  omega
 simp only[dvR22,dvR23,dvBB,dvLB,dvW,dvM,dvA,iR,iL,iB,iW,Tryz.f270,Option.getD_some]
 simp only[bQ,reduceLeDiff,reduceEqDiff,reduceLT,↓reduceIte,reduceCtorEq,reduceToNat,reducePow,SBd,q3,q4,q6,q8,h0,t1,t2,eT]
 have hdl:=Nat.div_le_self (L.getD (j+(m+2)) 0*4294967296+L.getD (j+(m+1)) 0) ((dg D).getD (m+1) 0)
 simp only[←Int.natCast_ediv,←Int.natCast_emod]
 rw[wr64n (by omega)]
 refine⟨by constructor<;>omega,by omega,by omega,by omega,by omega,by constructor<;>omega,by constructor<;>omega,by omega,by omega,by omega,by omega,by omega,by omega,by omega,h _ _ ⟨?_,?_,?_,?_,?_,?_,?_,?_⟩ ?_ ?_ ?_ ?_⟩
 all_goals simp only[bQ,reduceEqDiff,↓reduceIte,q1,q2,q3,q4,q5,q6,q7,q8,h0,h1]
theorem copy_fw (x s lx:Nat) (hs:s<32) (hl:(dg x).length=lx):setMany (List.replicate (lx+2) 0) 0 ((dg (x*2^s)).take (cpN none (lx+2) (dg (x*2^s)).length))=fw (lx+2) (x*2^s):=by
 have h1:x*2^s<4294967296^(lx+1):=by
  have h2:=dg_hi x
  rw[hl] at h2
  rw[Nat.pow_succ]
  refine Nat.lt_of_lt_of_le ((Nat.mul_lt_mul_right (Nat.pow_pos (by omega))).2 h2) (Nat.mul_le_mul_left _ ?_)
  exact Nat.le_trans (Nat.pow_le_pow_right (by omega) (show s≤32 by omega)) (by omega)
 have h3:=dg_len h1
 have h4:cpN none (lx+2) (dg (x*2^s)).length=(dg (x*2^s)).length:=Nat.min_eq_left (by omega)
 rw[h4,List.take_length]
 generalize hN:x*2^s=N at *
 have e:setMany (List.replicate (lx+2) 0) 0 (dg N)=dg N++List.replicate (lx+2-(dg N).length) 0:=by
  apply List.ext_getElem?
  intro k
  rw[setMany_get _ _ _ _ (by rw[List.length_replicate];omega)]
  by_cases hk:k<(dg N).length
  ·rw[if_pos ⟨by omega,by omega⟩,Nat.sub_zero,List.getElem?_append_left hk]
  ·rw[if_neg (by omega),List.getElem?_append_right (by omega),List.getElem?_replicate,List.getElem?_replicate]
   split
   ·rw[if_pos (by omega)]
   ·rw[if_neg (by omega)]
 rw[e]
 have hlen:(dg N++List.replicate (lx+2-(dg N).length) 0).length=lx+2:=by rw[List.length_append,List.length_replicate];omega
 have hfin:=fw_of (o:=dg N++List.replicate (lx+2-(dg N).length) 0) N ((W32_dg N).app (W32.zeros _)) ?_
 ·rw[hlen] at hfin;exact hfin
 rw[vl_app,vl_zeros,Nat.mul_zero,Nat.add_zero,vl_dg,hlen,Nat.mod_eq_of_lt (Nat.lt_of_lt_of_le h1 (Nat.pow_le_pow_right (by omega) (by omega)))]
end Go.Proofs.YtfengpdaocgcnaaGreatDoor
