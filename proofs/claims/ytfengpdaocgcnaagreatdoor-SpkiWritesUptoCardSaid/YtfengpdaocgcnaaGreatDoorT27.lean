/- Whole numbers of any size (bignum): long division, put together. Prime numbers by their certificates: the powers of one number are all the rests; so a to the n - 1 is 1. Plain Lean. The tables of Ed25519's numbers; a slice of a whole array. A list of bytes copied, and turned round in its place: the library's Clone and Reverse; numbers of bytes, the lowest first. -/
import Derived.Test.YtfengpdaocgcnaaGreatDoorT26
import Derived.Test.YtfengpdaocgcnaaGreatDoorQ02
import Derived.Test.YtfengpdaocgcnaaGreatDoorT25
namespace Go.Proofs.YtfengpdaocgcnaaGreatDoor
open Nat (reduceMul reduceLeDiff reduceEqDiff reduceLT reduceAdd reduceSub reduceDiv)
open Int (reduceToNat reducePow)
open Go.RowKit
set_option linter.unusedSimpArgs false
set_option maxRecDepth 100000
theorem dv_digit (J:Inv) (s D m j lq:Nat) (L Q w:List Nat) (hlv:(dg D).length=m+2) (hm:m≤1000000) (hL:L.length≤2000000) (hj:j+(m+3)≤L.length) (wL:W32 L) (hw:w=seg L j (m+3)) (hlt:vl w<4294967296*D) (htop:2147483648≤(dg D).getD (m+1) 0) (hlq:(List.replicate (j+1) 0++Q).length=lq)
  (E:En) (H:List (Nat×Ob)) (h0:Hroot H 0=some (.row 156 (.sq 1 (.val (.int .u32 0)) (wds L)))) (h1:Hroot H 1=some (.row 156 (.sq 1 (.val (.int .u32 0)) (wds (List.replicate (j+1) 0++Q))))) (hE:DvE s D m j E) (h20:E.get 20=some (.val (.int .u64 ((w.getD (m+2) 0*4294967296+w.getD (m+1) 0)/(dg D).getD (m+1) 0:Nat)))) (h21:E.get 21=some (.val (.int .u64 ((w.getD (m+2) 0*4294967296+w.getD (m+1) 0)%(dg D).getD (m+1) 0:Nat))))
  (K ret:S→Prop) (ex:List (Nat×(S→Prop))) (hK: ∀E' H',DvE s D m j E'→Hroot H' 0=some (.row 156 (.sq 1 (.val (.int .u32 0)) (wds (taken L j (m+3) (fw (m+3) (vl w/D*D))))))→Hroot H' 1=some (.row 156 (.sq 1 (.val (.int .u32 0)) (wds (List.replicate j 0++vl w/D::Q))))→K ⟨E',H',2⟩):vg Tryz.prog (SBd J) (.seq dvEst (.seq dvR28 (.seq dvSub (.seq dvR37 (.seq dvR38 (.seq dvC39 dvR49)))))) ⟨E,H,2⟩ ⟨K,ret,ex⟩:=by
 have ww:W32 w:=by rw[hw];exact seg_w wL _ _
 have hl:w.length=m+3:=by rw[hw];exact seg_len hj
 have wv:=W32_dg D
 obtain⟨r1,r2⟩:=est_ok (u:=w) (v:=dg D) hlv hl ww wv (by rw[vl_dg];exact hlt) htop
 have r3:=est_hi (u:=w) (v:=dg D) hlv hl ww wv (by rw[vl_dg];exact hlt) htop
 rw[vl_dg] at r1 r3
 have hD0:0<D:=by
  rcases Nat.eq_zero_or_pos D with h|h
  ·rw[h,dg_zero] at hlv;simp at hlv
  ·exact h
 have hq:=Nat.div_mul_le_self (vl w) D
 have hvt:vl (fw (m+3) (vl w/D*D))=vl w/D*D:=fw_val ww hl hq
 have hqB:vl w/D<4294967296:=Nat.lt_of_le_of_lt r1 r2
 have hend: ∀E' H' o3,DvE s D m j E'→E'.get 20=some (.val (.int .u64 (vl w/D:Nat)))→o3.length=m+3→W32 o3→vl o3=vl w-vl w/D*D→Hroot H' 0=some (.row 156 (.sq 1 (.val (.int .u32 0)) (wds (putS L j o3))))→Hroot H' 1=some (.row 156 (.sq 1 (.val (.int .u32 0)) (wds (List.replicate (j+1) 0++Q))))→vg Tryz.prog (SBd J) dvR49 ⟨E',H',2⟩ ⟨K,ret,ex⟩:=by
  intro E' H' o3 hE' g20 l3 w3 v3 k0 k1
  have ht:taken L j (m+3) (fw (m+3) (vl w/D*D))=putS L j o3:=by
   unfold taken
   rw[←hw,hvt,←fw_is w3 l3 v3 hq]
  refine dv_end J s D m j lq (vl w/D) L Q o3 hlq hqB E' H' k0 k1 hE' g20 K ret ex fun E2 H2 hE2 r0 r1=>hK E2 H2 hE2 ?_ r1
  rw[ht]
  exact r0
 have hlD:=vl_dg D
 refine dv_est J s D m j L _ w hlv hm hL hj wL hw hlt htop E H h0 h1 hE h20 h21 _ _ _ fun E1 H1 hE1 g20 k0 k1=> ?_
 refine dv_28 J s D m j (est w (dg D)) L _ E1 H1 k0 k1 hE1 g20 _ _ _ _ fun E2 H2 hE2 g20 g22 g23 k0 k1=> ?_
 refine dv_sub J s D m j (est w (dg D)) L _ w hlv hm hL hj wL hw r2 E2 H2 k0 k1 hE2 g20 g22 g23 _ _ _ fun E3 H3 o d hE3 g20 g22 g23 hS k0 k1=> ?_
 have hC:cyM (dg D) (est w (dg D)) (m+2)<4294967296:=Nat.lt_of_le_of_lt (cyM_le wv _ _) r2
 have hfin:=hS.fin ww (by omega) hlv
 have htopw:w.getD (m+2) 0=L.getD (j+(m+2)) 0:=by rw[hw,seg_get (by omega)]
 refine dv_top J s D m j (est w (dg D)) d L _ o hm hL hj hS.len wL _ hC hS.d1 E3 H3 k0 k1 hE3 g20 g22 g23 _ _ _ _ fun E4 H4 hE4 g20 g26 k0 k1=> ?_
 rw[←htopw] at g26 k0
 generalize hG:est w (dg D)=g at *
 generalize hCC:cyM (dg D) g (m+2)=C at *
 generalize ht:(w.getD (m+2) 0+8589934592-C-d)%4294967296=tp at *
 have htp:tp<4294967296:=by rw[←ht];exact Nat.mod_lt _ (by omega)
 have ho2:(o++[tp]).length=m+3:=by rw[List.length_append,hS.len,List.length_singleton]
 have wo2:W32 (o++[tp]):=hS.w32.app (W32.one htp)
 have hfin:vl w+4294967296^(m+3)*brw (w.getD (m+2) 0) (C+d)=vl (o++[tp])+D*g:=by
  rcases hfin with h|h
  ·rw[hlD] at h;exact h
  ·omega
 have hM:(putS L j (o++[tp])).length=L.length:=putS_len (by omega)
 have hbl:=brw_le (w.getD (m+2) 0) (C+d)
 generalize he:brw (w.getD (m+2) 0) (C+d)=e at *
 refine dv_back J s D m j g e (putS L j (o++[tp])) _ (o++[tp]) hlv hm (by rw[hM];exact hL) (by rw[hM];exact hj) (putS_w wL wo2 _) (seg_putS (by omega) ho2).symm r2 (fun he1=> ?_) hbl E4 H4 k0 k1 hE4 g20 g26 _ _ _ _ (fun he0 E5 H5 hE5 g20 k0 k1=> ?_) (fun he1 E5 H5 o3 c hE5 g20 hA k0 k1=> ?_)
 ·subst he1
  have hb:=(digit_big (q:=vl w/D) hfin (by have:=vl_lt wo2;rw[ho2] at this;exact this) hD0 rfl r3).1
  rw[hb]
  exact Nat.succ_pos _
 ·subst he0
  obtain⟨f1,f2⟩:=digit_ok (q:=vl w/D) hfin hD0 rfl r1
  rw[f1] at g20
  exact hend E5 H5 _ hE5 g20 ho2 wo2 f2 k0 k1
 ·subst he1
  have hAe:=hA.eq
  have hgt:(o++[tp]).getD (m+2) 0=tp:=getD_snoc hS.len
  rw[show(o++[tp]).take (m+2)=o by rw[←hS.len];exact List.take_left,show(dg D).take (m+2)=dg D by rw[←hlv];exact List.take_length,hlD] at hAe
  obtain⟨f1,f2⟩:=digit_back (q:=vl w/D) (n:=m+2) (by rw[show m+2+1=m+3 from rfl]) hfin wo2 hS.len hD0 rfl r3 hAe hA.len hA.w hA.c1
  rw[hgt] at k0
  have lo3:(o3++[(tp+c)%4294967296]).length=m+3:=by rw[List.length_append,hA.len,List.length_singleton]
  have wo3:W32 (o3++[(tp+c)%4294967296]):=hA.w.app (W32.one (Nat.mod_lt _ (Nat.succ_pos _)))
  rw[putS_putS (by rw[ho2];exact hj) (by rw[lo3,ho2])] at k0
  rw[f1,Nat.add_sub_cancel] at g20
  exact hend E5 H5 _ hE5 g20 lo3 wo3 f2 k0 k1
set_option maxHeartbeats 4000000 in
theorem div_main (J:Inv) (x y m:Nat) (hy:(dg y).length=m+2) (hm2:m≤1000000) (hx:(dg x).length≤1000000) (hxy:y≤x) (E:En) (e0:E.get 0=some (wV (dg x))) (e1:E.get 1=some (wV (dg y))) (nrm:S→Prop) (ex:List (Nat×(S→Prop))):
  vg Tryz.prog (SBd J) dvM ⟨E,[],0⟩ ⟨nrm,RetP (Tryz.f270).results.toList (.tu [wV (dg (x/y)),wV (dg (x%y))]),ex⟩:=by
 obtain⟨hbl,htop⟩:=bl_dg hy
 obtain⟨s,hs,hsI,hV1,hV2⟩:=long_norm (W32_dg y) hy htop
 have b0:=(W32_dg y).get (m+1)
 rw[vl_dg] at hV1 hV2
 have hbt:bl ((dg y).getD (m+1) 0)≤32:=bl_le_iff.2 (by omega)
 have hbp:bl ((dg y).getD (m+1) 0)≠0:=fun e=>htop (bl_eq_zero.1 e)
 have hsw:wr .u64 (32-((bl y:Nat)-1:Int)%32-1)=(s:Nat):=by
  rw[show(32-((bl y:Nat)-1:Int)%32-1)=(s:Nat) by omega]
  exact wr64n (by omega)
 have hlv:(dg (y*2^s)).length=m+2:=dg_len_eq (Nat.le_trans (pow_le_half (m+1)) hV2) hV1
 have hlx:=dg_mono hxy
 rw[hy] at hlx
 obtain⟨lx,hlxe⟩: ∃lx,(dg x).length=lx:=⟨_,rfl⟩
 have hU:=copy_fw x s lx hs hlxe
 have t1:((lx:Int)+2).toNat=lx+2:=by omega
 have t2:(((lx+2:Nat):Int)-(m+2:Nat)-1+1).toNat=lx-m:=by omega
 have t3:(((m+2:Nat):Int)-1).toNat=m+1:=by omega
 have t4:(((m+2:Nat):Int)-2).toNat=m:=by omega
 simp only[wV] at e0 e1
 rw[dvM_eq]
 simp only[dvW,dvLB,dvM,dvA,iR,iL,iB,iW,Tryz.f270,Option.getD_some]
 simp only[↓bD,bQ,reduceLeDiff,reduceEqDiff,reduceLT,reduceAdd,↓reduceIte,reduceCtorEq,SBd,SBdf,e0,e1,hy,hsw,hlv,hlxe,hU,t1,t2,t3,t4,List.length_replicate,fw_len]
 have hxl:x<4294967296^lx:=by have:=dg_hi x;rwa [hlxe] at this
 have hinit:=LongI.init (N:=x*2^s) rfl hxl hs (by omega) hV2
 have hdiv:x/y=x*2^s/(y*2^s):=(Nat.mul_div_mul_right _ _ (Nat.pow_pos (by omega))).symm
 have hmod:x%y*2^s=x*2^s%(y*2^s):=(Nat.mul_mod_mul_right ..).symm
 have hmod2:x%y=x*2^s%(y*2^s)/2^s:=by rw[←hmod,Nat.mul_div_cancel _ (Nat.pow_pos (by omega))]
 have htD:2147483648≤(dg (y*2^s)).getD (m+1) 0:=top_word hlv hV2
 rw[hdiv,hmod2]
 clear hdiv hmod hmod2 hsI hU
 generalize hDD:y*2^s=D at *
 generalize hNN:x*2^s=N at *
 have hD0:0<D:=Nat.lt_of_lt_of_le (Nat.mul_pos (by omega) (Nat.pow_pos (by omega))) hV2
 clear hDD hNN
 refine⟨.of (by omega),by constructor<;>omega,by omega,by omega,by constructor<;>omega,by constructor<;>omega,by omega,by omega,by omega,by constructor<;>omega,by omega,by omega,by omega,by omega,by omega,by omega,by constructor<;>omega,by constructor<;>omega,by constructor<;>omega,by omega,by omega,by omega,by constructor<;>omega,by omega,by omega,by constructor<;>omega,by omega,by omega,?_⟩
 refine LoopC.intro (α:=Nat×List Nat×List Nat) (fun p=>LongI N D (m+2) p.2.1 p.2.2 (lx+2) (lx-m) p.1) (fun p=>⟨[(10, .val (.int .u64 s)),(11,wV (dg D)),(12, .ro (.r 0)),(13, .i (m+2:Nat)),(15, .ro (.r 1)),(16, .val (.int .u64 ((dg D).getD (m+1) 0:Nat))),(17, .val (.int .u64 ((dg D).getD m 0:Nat))),(18, .i ((p.1:Int)-1))],dvH p.2.1 (List.replicate p.1 0++p.2.2),2⟩) (fun p=>p.1) (lx-m,fw (lx+2) N,[]) hinit ?_ ?_
 ·have c1:=(W32_dg D).get (m+1)
  have c2:=(W32_dg D).get m
  simp only[bQ,reduceLeDiff,reduceEqDiff,↓reduceIte,reduceCtorEq,dvH,List.append_nil]
  rw[wr64n (by omega),wr64n (by omega)]
  exact⟨rfl,rfl,by omega⟩
 ·rintro⟨k,L,Q⟩ h1
  have h1:LongI N D (m+2) L Q (lx+2) (lx-m) k:=h1
  have e0:=h1.len
  cases k with
  |zero=>
   obtain⟨f1,f2⟩:=h1.fin
   simp only[bQ,reduceEqDiff,↓reduceIte,dvH]
   have hL:=h1.lt
   have hE:=h1.eq
   rw[Nat.pow_zero,Nat.one_mul] at hL hE
   have hQ:N/D=vl Q:=by rw[←hE,Nat.add_mul_div_right _ _ hD0,Nat.div_eq_of_lt hL,Nat.zero_add]
   refine⟨fun h=>absurd h (by rw[decide_eq_true_eq];omega),fun _=> ?_⟩
   simp only[dvEnd,dvM,dvA,iR,Tryz.f270,Option.getD_some]
   simp only[↓bD,bQ,reduceLeDiff,reduceEqDiff,reduceAdd,↓reduceIte,reduceCtorEq,SBdf,e0,List.replicate_zero]
   have hlq:Q.length=lx-m:=by have:=h1.qlen;omega
   rw[hQ,f2]
   refine⟨by omega,h1.qw,by omega,h1.w,by omega,by omega,?_,rfl,rfl⟩
   rw[←f2]
   have:=dg_len (vl_lt h1.w)
   omega
  |succ j=>
   obtain⟨g1,g2,g3⟩:=h1.sg hV1
   have u1:(((j+1:Nat):Int)-1)=(j:Int):=by omega
   simp only[bQ,reduceEqDiff,↓reduceIte,dvH,u1]
   refine⟨fun _=> ?_,fun h=>absurd h (by rw[decide_eq_false_iff_not];omega)⟩
   have hfit:=h1.fit
   have hqv:vl (fw (m+3) (vl (seg L j (m+3))/D*D))=vl (seg L j (m+3))/D*D:=fw_val (seg_w h1.w _ _) (seg_len g1) (Nat.div_mul_le_self _ _)
   have hst:=h1.step hV1 hD0 (fw (m+3) (vl (seg L j (m+3))/D*D)) hqv
   rw[dvBB_eq]
   refine dv_head J s D m j L _ (seg L j (m+3)) hm2 (by omega) g1 h1.w rfl htD _ _ rfl rfl ⟨rfl,rfl,rfl,rfl,rfl,rfl,rfl,rfl⟩ _ _ _ _ fun E1 H1 hE1 g20 g21 k0 k1=> ?_
   refine dv_digit J s D m j (lx-m) L Q (seg L j (m+3)) hlv hm2 (by omega) g1 h1.w rfl g2 htD (by rw[List.length_append,List.length_replicate];have:=h1.qlen;omega) E1 H1 k0 k1 hE1 g20 g21 _ _ _ fun E2 H2 hE2 k0 k1=> ?_
   obtain⟨q1,q2,q3,q4,q5,q6,q7,q8⟩:=hE2
   simp only[bQ,↓reduceIte,q8]
   refine⟨by constructor<;>omega,Again.intro (j,taken L j (m+3) (fw (m+3) (vl (seg L j (m+3))/D*D)),vl (seg L j (m+3))/D::Q) hst (Nat.lt_succ_self j) ?_⟩
   simp only[bQ,reduceLeDiff,reduceEqDiff,↓reduceIte,q1,q2,q3,q4,q5,q6,q7,k0,k1]
theorem div_fn (J:Inv) (x y m:Nat) (hy:(dg y).length=m+2) (hm:1≤m) (hm2:m≤1000000) (hx:(dg x).length≤1000000):Fn Tryz.prog J 270 false [wV (dg x),wV (dg y)] (.tu [wV (dg (x/y)),wV (dg (x%y))]):=by
 refine fn_intro Tryz.func270 dvA_eq (by kernel_rfl) (Nat.le_of_ble_eq_true (by kernel_rfl)) (by kernel_rfl) (by kernel_rfl) (by simp[V.cl,clL,wV,wds_cl]) (SBd_ok J) ?_
 simp only[dvS5,dvS8,dvA,iR,iL,Tryz.f270,Option.getD_some]
 simp only[↓bD,bQ,reduceLeDiff,reduceEqDiff,reduceAdd,↓reduceIte,reduceCtorEq,SBd,SBdf,hy]
 refine⟨fun h=>absurd h (by rw[beq_iff_eq];omega),fun _=>⟨.of (by omega), .of (by omega),fun h=> ?_,fun h=>⟨fun h2=> ?_,fun h2=>⟨fun h3=> ?_,fun h3=> ?_⟩⟩⟩⟩
 ·have hlt:x<y:=by
   rw[decide_eq_true_eq] at h
   rcases Nat.lt_trichotomy x y with h1|rfl|h1
   ·exact h1
   ·rw[cmp3_eq] at h;omega
   ·rw[cmp3_gt h1] at h;omega
  rw[Nat.div_eq_of_lt hlt,Nat.mod_eq_of_lt hlt,dg_zero]
  exact⟨.of (by omega),rfl,rfl⟩
 all_goals
  have hle:y≤x:=by
   rw[decide_eq_false_iff_not] at h
   rcases Nat.lt_or_ge x y with h1|h1
   ·rw[cmp3_lt h1] at h;omega
   ·exact h1
  have hll:=dg_mono hle
 ·exfalso;rw[decide_eq_true_eq] at h2;omega
 ·exfalso;rw[beq_iff_eq] at h3;omega
 ·exact div_main J x y m hy hm2 hx hle _ (by simp only[bQ,↓reduceIte,reduceCtorEq]) (by simp only[bQ,reduceEqDiff,↓reduceIte,reduceCtorEq]) _ _
def Prm (n:Nat):Prop:=1<n∧ ∀d,d ∣n→d=1∨d=n
theorem pow_mod_one {g n a:Nat} (h:g^a%n=1%n) (k:Nat):g^(a*k)%n=1%n:=by
 rw[Nat.pow_mul,Nat.pow_mod,h,←Nat.pow_mod,Nat.one_pow]
theorem pow_gcd (g n:Nat): ∀a b,g^a%n=1%n→g^b%n=1%n→g^(Nat.gcd a b)%n=1%n:=by
 intro a b
 induction a,b using Nat.gcd.induction with
 |H0 b=>intro _ h;rwa [Nat.gcd_zero_left]
 |H1 a b ha ih=>
  intro h1 h2
  rw[Nat.gcd_rec]
  refine ih ?_ h1
  have e:=Nat.div_add_mod b a
  rw[←e,Nat.pow_add,Nat.mul_mod,pow_mod_one h1,←Nat.mul_mod,Nat.one_mul] at h2
  exact h2
theorem pigeon: ∀(N:Nat) (f:Nat→Nat),(∀i,i<N→f i<N)→(∀i j,i<j→j<N→f i≠f j)→ ∀a,a<N→ ∃i,i<N∧f i=a:=by
 intro N
 induction N with
 |zero=>intro f _ _ a ha;omega
 |succ N ih=>
  intro f hf hi a ha
  have hne: ∀i,i<N→f i≠f N:=fun i h=>hi i N h (by omega)
  have hinj: ∀i j,i<N→j<N→f i=f j→i=j:=fun i j h1 h2 h=>by
   rcases Nat.lt_trichotomy i j with h3|h3|h3
   ·exact absurd h (hi i j h3 (by omega))
   ·exact h3
   ·exact absurd h.symm (hi j i h3 (by omega))
  have hN:=hf N (by omega)
  have key:=ih (fun i=>if f i=N then f N else f i) (fun i h=>by
   have h1:=hf i (by omega)
   have h2:=hne i h
   split<;>omega) (fun i j h1 h2=>by
   have h3:=hne i (by omega)
   have h4:=hne j h2
   have h5:=hi i j h1 (by omega)
   split<;>split<;>omega)
  have hit: ∀b,b<N→ ∃i,i<N+1∧f i=b∨(i<N∧f i=N∧b=f N):=fun b hb=>by
   obtain⟨i,h1,h2⟩:=key b hb
   split at h2
   ·exact⟨i, .inr ⟨h1,by assumption,h2.symm⟩⟩
   ·exact⟨i, .inl ⟨by omega,h2⟩⟩
  rcases Nat.lt_or_ge a N with h|h
  ·obtain⟨i,h1|h1⟩:=hit a h
   ·exact⟨i,h1⟩
   ·exact⟨N,by omega,h1.2.2.symm⟩
  ·obtain rfl:a=N:=by omega
   rcases Nat.lt_or_ge (f a) a with h2|h2
   ·obtain⟨i,h1,h3⟩:=key (f a) h2
    split at h3
    ·exact⟨i,by omega,by assumption⟩
    ·exact absurd h3 (hne i h1)
   ·exact⟨a,by omega,by omega⟩
theorem prod_coprime {c:Nat}: ∀(qs:List Nat),(∀q∈qs,Nat.Coprime c q)→Nat.Coprime c (qs.foldr (· * ·) 1)
 |[],_=>Nat.coprime_one_right c
 |q::r,h=>Nat.Coprime.mul_right (h q (List.mem_cons_self ..)) (prod_coprime r fun q' h'=>h q' (List.mem_cons_of_mem _ h'))
theorem pratt {n g:Nat} {qs:List Nat} (hn:1<n) (hp:qs.foldr (· * ·) 1=n-1) (hq: ∀q∈qs,Prm q∧g^((n-1)/q)%n≠1) (h1:g^(n-1)%n=1):
  Prm n∧ ∀a,0<a→a<n→a^(n-1)%n=1:=by
 have one:1%n=1:=Nat.mod_eq_of_lt hn
 have ord: ∀k,0<k→k<n-1→g^k%n≠1:=by
  intro k hk0 hk h
  have hd:=pow_gcd g n k (n-1) (by rw[one];exact h) (by rw[one];exact h1)
  rw[one] at hd
  obtain⟨c,hc⟩:=Nat.gcd_dvd_right k (n-1)
  have hdk:=Nat.le_of_dvd hk0 (Nat.gcd_dvd_left k (n-1))
  generalize Nat.gcd k (n-1)=d at *
  have hc1:c≠1:=by rintro rfl;omega
  have hex: ∃q,q∈qs∧q ∣c:=by
   rcases Classical.em (∃q,q∈qs∧q ∣c) with h|h
   ·exact h
   ·exfalso
    have hcop:=prod_coprime (c:=c) qs fun q hqm=>by
     obtain⟨⟨q1,q2⟩,_⟩:=hq q hqm
     rcases q2 _ (Nat.gcd_dvd_right c q) with h2|h2
     ·exact h2
     ·exact absurd ⟨q,hqm,by rw[←h2];exact Nat.gcd_dvd_left c q⟩ h
    rw[hp,hc] at hcop
    have:c ∣1:=by rw[←hcop];exact Nat.dvd_gcd (Nat.dvd_refl c) (Nat.dvd_mul_left c d)
    exact hc1 (Nat.dvd_one.1 this)
  obtain⟨q,hqm,e,he⟩:=hex
  obtain⟨⟨q1,_⟩,q3⟩:=hq q hqm
  apply q3
  rw[hc,he,←Nat.mul_assoc,Nat.mul_comm d q,Nat.mul_assoc,Nat.mul_div_cancel_left _ (by omega)]
  have:=pow_mod_one (n:=n) (g:=g) (a:=d) (by rw[one];exact hd) e
  rwa [one] at this
 have shift: ∀i,i≤n-1→ ∀x,(g^i%n)*(g^(n-1-i)*x)%n=x%n:=fun i hi x=>by
  rw[←Nat.mul_assoc,Nat.mul_mod,Nat.mul_mod (g^i%n),Nat.mod_mod,←Nat.mul_mod (g^i),←Nat.pow_add,show i+(n-1-i)=n-1 by omega,h1,Nat.one_mul,Nat.mod_mod]
 have nz: ∀i,i<n-1→g^i%n≠0:=fun i hi h=>by
  have:=shift i (by omega) 1
  rw[h,Nat.zero_mul,Nat.zero_mod,one] at this
  omega
 have inj: ∀i j,i<j→j<n-1→g^i%n≠g^j%n:=fun i j hij hj h=>by
  have e1:=shift i (by omega) 1
  rw[h,Nat.mul_one] at e1
  have e2:g^j%n*g^(n-1-i)%n=g^(j-i)%n:=by
   rw[Nat.mul_mod,Nat.mod_mod,←Nat.mul_mod,←Nat.pow_add,show j+(n-1-i)=n-1+(j-i) by omega,Nat.pow_add,Nat.mul_mod,h1,Nat.one_mul,Nat.mod_mod]
  rw[e2,one] at e1
  exact ord (j-i) (by omega) (by omega) e1
 have all: ∀a,0<a→a<n→ ∃i,i<n-1∧g^i%n=a:=fun a h0 ha=>by
  obtain⟨i,h2,h3⟩:=pigeon (n-1) (fun i=>g^i%n-1) (fun i hi=>by
   have:=nz i hi
   have:=Nat.mod_lt (g^i) (show 0<n by omega)
   omega) (fun i j hij hj=>by
   have:=nz i (by omega)
   have:=nz j hj
   have:=inj i j hij hj
   omega) (a-1) (by omega)
  have:=nz i h2
  exact⟨i,h2,by omega⟩
 refine⟨⟨hn,fun d hd=> ?_⟩,fun a h0 ha=> ?_⟩
 ·rcases Nat.eq_or_lt_of_le (Nat.le_of_dvd (by omega) hd) with h|h
  ·exact .inr h
  ·have h0:0<d:=Nat.pos_of_dvd_of_pos hd (by omega)
   obtain⟨i,h2,h3⟩:=all d h0 h
   have h4:=shift i (by omega) 1
   rw[h3,one] at h4
   have h5:=(Nat.dvd_mod_iff hd).2 (Nat.dvd_mul_right d (g^(n-1-i)*1))
   rw[h4] at h5
   exact .inl (Nat.dvd_one.1 h5)
 ·obtain⟨i,_,h3⟩:=all a h0 ha
  rw[←h3,←Nat.pow_mod,←Nat.pow_mul,Nat.mul_comm]
  have:=pow_mod_one (n:=n) (g:=g) (a:=n-1) (by rw[one];exact h1) i
  rwa [one] at this
def pmod (n:Nat):Nat→Nat→Nat→Nat
 |0,_,_=>1%n
 |f+1,b,e=>if e%2=1 then b*pmod n f (b*b%n) (e/2)%n else pmod n f (b*b%n) (e/2)
theorem pmod_eq (n:Nat): ∀f b e,e<2^f→pmod n f b e=b^e%n
 |0,b,e,h=>by
  obtain rfl:e=0:=by omega
  rfl
 |f+1,b,e,h=>by
  have ih:=pmod_eq n f (b*b%n) (e/2) (by rw[Nat.pow_succ] at h;omega)
  have e1:(b*b%n)^(e/2)%n=b^(2*(e/2))%n:=by rw[←Nat.pow_mod,←Nat.pow_two,←Nat.pow_mul]
  rw[e1] at ih
  unfold pmod
  rw[ih]
  split
  ·rw[Nat.mul_mod,Nat.mod_mod,←Nat.mul_mod,Nat.mul_comm,←Nat.pow_succ,show(2*(e/2)).succ=e by omega]
  ·rw[show 2*(e/2)=e by omega]
def chkP:List Nat→List (Nat×Nat×List Nat)→Bool
 |_,[]=>true
 |ks,(n,g,qs)::r=>decide (1<n)&&decide (n<2^255)&&(qs.foldr (· * ·) 1==n-1)&&qs.all (fun q=>ks.contains q&& !(pmod n 256 g ((n-1)/q)==1))&&(pmod n 256 g (n-1)==1)&&chkP (n::ks) r
theorem chkP_ok: ∀(c:List (Nat×Nat×List Nat)) (ks:List Nat),chkP ks c=true→(∀k∈ks,Prm k)→ ∀n g qs,(n,g,qs)∈c→Prm n∧ ∀a,0<a→a<n→a^(n-1)%n=1
 |[],_,_,_,_,_,_,h=>by cases h
 |(m,h,rs)::r,ks,hc,hks,n,g,qs,hm=>by
  simp only[chkP,Bool.and_eq_true,decide_eq_true_eq,beq_iff_eq,List.all_eq_true,Bool.not_eq_true',beq_eq_false_iff_ne] at hc
  obtain⟨⟨⟨⟨⟨h1,h2⟩,h3⟩,h4⟩,h5⟩,h6⟩:=hc
  have h7:(2:Nat)^256=2*2^255:=by rw[Nat.pow_succ,Nat.mul_comm]
  have hx:Prm m∧ ∀a,0<a→a<m→a^(m-1)%m=1:=by
   refine pratt (g:=h) (qs:=rs) h1 h3 (fun q hq=> ?_) ?_
   ·obtain⟨h8,h9⟩:=h4 q hq
    refine⟨hks q (by simpa using h8),?_⟩
    rw[pmod_eq _ _ _ _ (by have:=Nat.div_le_self (m-1) q;omega)] at h9
    exact h9
   ·rwa [pmod_eq _ _ _ _ (by omega)] at h5
  rcases List.mem_cons.1 hm with e|e
  ·cases e
   exact hx
  ·refine chkP_ok r (m::ks) h6 (fun k hk=> ?_) n g qs e
   rcases List.mem_cons.1 hk with rfl|hk
   ·exact hx.1
   ·exact hks k hk
def certP:List (Nat×Nat×List Nat):=[(2,1,[]),(3,2,[2]),(5,2,[2,2]),(11,2,[2,5]),(353,3,[2,2,2,2,2,11]),(13,2,[2,2,3]),(97,5,[2,2,2,2,2,3]),(19,2,[2,3,3]),(419,2,[2,11,19]),(7,3,[2,3]),(569003,2,[2,7,97,419]),(29,2,[2,2,7]),(2437,2,[2,2,3,7,29]),(2773320623,5,[2,2437,569003]),(72106336199,7,[2,13,2773320623]),(23,5,[2,11]),(47,5,[2,23]),(17,3,[2,2,2,2]),(103,5,[2,3,17]),(991,6,[2,3,3,5,11]),(8574133,2,[2,2,3,7,103,991]),(127,3,[2,3,3,7]),(1919519569386763,2,[2,3,7,19,47,47,127,8574133]),(41,6,[2,2,2,5]),(83,2,[2,41]),(9463,3,[2,3,19,83]),(37853,2,[2,2,9463]),(75707,2,[2,37853]),(75445702479781427272750846543864801,7,[2,2,2,2,2,3,3,5,5,75707,72106336199,1919519569386763]),(131,2,[2,5,13]),(132049,26,[2,2,2,2,3,3,7,131]),(53,2,[2,2,13]),(107,2,[2,53]),(1723,3,[2,3,7,41]),(430751,17,[2,5,5,5,1723]),(43,3,[2,3,7]),(173,2,[2,2,43]),(4153,5,[2,2,2,3,173]),(31,3,[2,3,5]),(37,2,[2,2,3,3]),(223,3,[2,3,37]),(31757755568855353,10,[2,2,2,3,31,107,223,4153,430751]),(59,2,[2,29]),(487,3,[2,3,3,3,3,3]),(57467,2,[2,59,487]),(3727,3,[2,3,3,3,3,23]),(1923133,2,[2,2,3,43,3727]),(74058212732561358302231226437062788676166966415465897661863160754340907,2,[2,3,353,57467,132049,1923133,31757755568855353,75445702479781427272750846543864801]),(239,7,[2,7,17]),(479,13,[2,239]),(32573,2,[2,2,17,479]),(65147,2,[2,32573]),(57896044618658097711785492504343953926634992332820282019728792003956564819949,2,[2,2,3,65147,74058212732561358302231226437062788676166966415465897661863160754340907])]
theorem certP_ok:chkP [] certP=true:=by kernel_rfl
def p25519:Nat:=sealed Nat 57896044618658097711785492504343953926634992332820282019728792003956564819949
theorem p25519_eq:p25519=57896044618658097711785492504343953926634992332820282019728792003956564819949:=sealed_id _ _
theorem p_pos:0<p25519:=by rw[p25519_eq];decide
theorem p_big:1000<p25519:=by rw[p25519_eq];decide
theorem fermat {a:Nat} (h0:0<a) (h:a<p25519):a^(p25519-1)%p25519=1:=by
 have h2:=(chkP_ok certP [] certP_ok (fun k hk=>by cases hk) 57896044618658097711785492504343953926634992332820282019728792003956564819949 2 [2,2,3,65147,74058212732561358302231226437062788676166966415465897661863160754340907] (by simp[certP])).2 a h0
 rw[←p25519_eq] at h2
 exact h2 h
def pinv (a:Nat):Nat:=a^(p25519-2)%p25519
theorem pinv_mul {a:Nat} (h:a%p25519≠0):pinv a*(a%p25519)%p25519=1:=by
 unfold pinv
 rw[Nat.pow_mod]
 have hlt:a%p25519<p25519:=Nat.mod_lt _ p_pos
 have hf:=fermat (Nat.pos_of_ne_zero h) hlt
 have hp:=p_big
 generalize a%p25519=b at *
 rw[Nat.mod_mul_mod,←Nat.pow_succ,show(p25519-2).succ=p25519-1 by omega]
 exact hf
theorem pinv_zero {a:Nat} (h:a%p25519=0):pinv a=0:=by
 have hp:=p_big
 unfold pinv
 rw[Nat.pow_mod,h,Nat.zero_pow (by omega),Nat.zero_mod]
section
variable {P:Program} {x:Fx} {F:Cx} {w:World} {a:Act} {s:S}
theorem wp_slice_arr (hs:Sat x s F a w) {o:Oper} {k u d n:Nat} {ty t el:TypeId} {cs:List V} {dd:V} {K:Act→World→Prop} {Q:Exit→Act→World→Prop} (ht:P.underlying t=some (.array n el)) (hel:P.cellsOf el=1) (hn:n=cs.length) (hn0:0<n)
  (hk:Hroot s.h k=some (.box ty (.st cs))) (hu:s.e.get u=some (.op k 0)) (hop:o.op= .slice t (.tmp u) none none none) (hd:o.dst=some d) (hdn:d<x.n) (hc: ∀v∈cs,v.cell 0=v)
  (h: ∀z,Sat x ⟨(d, .sq 1 dd cs)::s.e,HdelK s.h [k],s.nx⟩ (F.less s.h [k]) (a.put (some d) z) w→K (a.put (some d) z) w):o.wp P a w K Q:=by
 obtain⟨b,hO,hb⟩:=rep_op (hs.env u _ hu).2
 obtain⟨b',cells,uu,hO',hheap,hsz,h1,h2,hF⟩:=hs.own (.r k) _ hk
 rw[hO] at hO'
 obtain rfl:b=b':=by simpa using hO'
 have hcs:(V.st cs).csize=cs.length:=rfl
 have hlen:P.arrayLen t=n:=by unfold Program.arrayLen;rw[ht]
 have helm:P.elem t=el:=by unfold Program.elem;rw[ht]
 have hrun:(Instr.sliceAt t (.pointer (some ⟨b,0,none⟩)) none none none).run P w= .ok (.slice (some ⟨b,0,none⟩) n n) w:=by
  rw[run_sliceAt_array_all w t ⟨b,0,none⟩ (by rw[hlen,helm];exact ht),helm,run_sizeOf' hel (by omega)]
  simp only[Result.andThen_ok,slicedAt,hlen,if_neg (show ¬n=0 by omega),Nat.sub_zero,Nat.zero_mul]
  rfl
 unfold Oper.wp execOp
 have hb':a.eval (.tmp u)= .pointer (some ⟨b,0,none⟩):=hb
 simp only[hop,Option.map_none,Sem.run_bind,hb',hrun,Result.andThen_ok,Sem.run_pure]
 show K (a.put o.dst _) w
 rw[hd]
 refine h _ ?_
 have hrep:Rep w (F.less s.h [k]) (.sq 1 dd cs) (.slice (some ⟨b,0,none⟩) n n):=by
  refine .sl _ 1 n (fun i=>cs.getD i dd) _ n b 0 (fun i j=>uu i) (by simp[V.elems,hn]) (Nat.le_refl _) (fun _=>⟨rfl,heap_lt hheap,fun e=>e.2 ⟨.r k,_,by simp[Nm.root],hk,by simp[Cx.blk,hO]⟩⟩) (fun i hi j hj=> ?_) (fun i hi j hj=> ?_)
  ·obtain rfl:j=0:=by omega
   have h3:=h1 i (by rw[hcs];omega)
   rw[show 0+(i*1+0)=i by omega]
   exact⟨(cell0 hheap i).trans h3.1,h3.2⟩
  ·obtain rfl:j=0:=by omega
   have h3:=(h2 i (by rw[hcs];omega)).le (less_le F s.h [k] w)
   have h4:cs[i]?=some (cs[i]'(by omega)):=List.getElem?_eq_getElem (by omega)
   have h5:cs.getD i dd=cs[i]'(by omega):=by rw[List.getD_eq_getElem?_getD,h4];rfl
   rw[show(V.st cs).cell i=cs.getD i .any from rfl,List.getD_eq_getElem?_getD,h4,Option.getD_some] at h3
   rw[h5,hc _ (List.getElem_mem _)]
   exact h3
 have:=(hs.less [k]).put (d:=some d) (fun k' hk'=>by cases hk';exact hdn) hrep
 exact this
end
def opsL:Code→List Oper| .region _ ops _=>ops.toList|_=>[]
noncomputable def lmA:Code:=(Tryz.f155).body.getD .skip
theorem lmA_eq:(Tryz.f155).body=some (.seq (iL lmA) (.seq (iL (iR lmA)) .ret)):=by kernel_rfl
theorem lmR_eq:iL (iR lmA)= .region 1 ⟨(opsL (iL (iR lmA))).head!::(opsL (iL (iR lmA))).drop 1⟩ false:=by kernel_rfl
theorem lmO_op:((opsL (iL (iR lmA))).head!).op= .slice 200 (.tmp 1) none none none:=by kernel_rfl
theorem lmO_ds:((opsL (iL (iR lmA))).head!).dst=some 3:=by kernel_rfl
theorem lmO_gd:((opsL (iL (iR lmA))).head!).guard=none:=by kernel_rfl
theorem lmO_ls:opsL (iL (iR lmA))=(opsL (iL (iR lmA))).head!::(opsL (iL (iR lmA))).drop 1:=by kernel_rfl
theorem limbs_fn (J:Inv) (l:List Nat) (h8:l.length=8):Fn Tryz.prog J 155 false [.st (wds l)] (wV l):=by
 refine Fn.of_plain (nx:=10) (post:=[]) (fnH_wp Tryz.func155 lmA_eq (by kernel_rfl) (Nat.le_of_ble_eq_true (by kernel_rfl)) fun w F ac Q hM hs hK=> ?_) (wV_cl _)
 have hG:=S0_ok J
 have hm:Tryz.prog.follows .mixedOrders=true:=rfl
 have hb: ∀m:Nm,0≤m.root→(fx0 J w F [] (Tryz.f155).ntmps).C.O m=none∧(fx0 J w F [] (Tryz.f155).ntmps).C.W m=none:=fun m hm=>hM.nx m hm
 let X0:=fx0 J w F [] (Tryz.f155).ntmps
 have hpre:vg Tryz.prog (S0 J) (iL lmA) ⟨enOf 0 [.st (wds l)],[],0⟩ ⟨fun s=>s.e.get 1=some (.op 0 0)∧Hroot s.h 0=some (.box 200 (.st (wds l)))∧s.nx=1,fun _=>False,[]⟩:=by
  simp only[lmA,iL,Tryz.f155,Option.getD_some]
  simp only[bQ,reduceEqDiff,↓reduceIte,S0]
 refine wp_pc (c:=iL lmA) (x:=X0) hG rfl hb hm (by kernel_rfl) hpre hs (fun s F a w hR hs=> ?_) (fun _ _ _ _ h _=>h.elim) (fun id k hk=>by simp[exGet] at hk)
 obtain⟨h1,h0,hnx⟩:=hR
 have hfin: ∀s,s.e.get 3=some (wV l)→s.nx=1→vops Tryz.prog (S0 J) false ((opsL (iL (iR lmA)))) (fun s=>s.e.get 2=some (wV l)∧s.nx=1) ((opsL (iL (iR lmA))).drop 1) s:=by
  intro s e3 en
  obtain⟨E,H,nx⟩:=s
  simp only at e3 en
  simp only[lmA,iR,iL,Tryz.f155,Option.getD_some,opsL]
  simp only[bQ,↓reduceIte,S0,e3,en]
  skip
 have hret: ∀s,s.e.get 2=some (wV l)→s.nx=1→RetH (Tryz.f155).results.toList (wV l) [] 10 s:=by
  intro s e2 en
  obtain⟨E,H,nx⟩:=s
  simp only at e2 en
  simp only[Tryz.f155]
  simp only[bQ,reduceLeDiff,e2,en]
  skip
 refine wp_seq ?_
 rw[lmR_eq]
 refine wp_region_list ?_
 refine wpList_plain lmO_gd fun K' hK'=>wp_slice_arr (dd:= .val (.int .u32 0)) hs (n:=8) Tryz.underlying200 Tryz.co156 (by rw[wds_len,h8]) (by omega) h0 h1 lmO_op lmO_ds (show 4≤_ from Nat.le_of_ble_eq_true (by kernel_rfl)) (fun v hv=> ?_) fun z hz=>hK' _ _ ?_
 ·obtain⟨n,_,rfl⟩: ∃n:Int,n∈zs l∧ .val (.int .u32 n)=v:=by simpa [wds,nums] using hv
  rfl
 ·have h2:=hfin ⟨(3,wV l)::s.e,HdelK s.h [0],s.nx⟩ (by simp[En.get]) hnx
  have h3:vops Tryz.prog (S0 J) false ((⟨(opsL (iL (iR lmA))).head!::(opsL (iL (iR lmA))).drop 1⟩:Array Oper).toList) (fun s=>s.e.get 2=some (wV l)∧s.nx=1) ((opsL (iL (iR lmA))).drop 1) ⟨(3,wV l)::s.e,HdelK s.h [0],s.nx⟩:=by
   show vops _ _ _ ((opsL (iL (iR lmA))).head!::(opsL (iL (iR lmA))).drop 1) _ _ _
   rw[←lmO_ls]
   exact h2
  refine vops_ok (x:=X0) hG rfl (fun s F a w hR hs=> ?_) _ _ _ _ _ (dsts_of (by kernel_rfl)) h3 hz
  exact wp_ret (hK.ret s F a w (hret s hR.1 hR.2) hs)
theorem u8_byteAt (l:List UInt8) (i:Nat):u8 (byteAt l i)=l.getD i 0:=by
 unfold u8 byteAt
 rw[Int.toNat_natCast]
 exact UInt8.ofNat_toNat
theorem clone_fn (J:Inv) (nx:Nat) (b:List UInt8) (h0:0<b.length) (h1:b.length≤1073741824):FnH Tryz.prog J 97 [.by b] [] nx (.ro (.r (nx+1))) [(nx+1, .row 5 (.by b))] (nx+2):=by
 refine fnJ Tryz.func97 rfl (by kernel_rfl) (SGbb_ok J nx) rfl ?_
 unfold Tryz.f97
 simp only[↓bD,bQ,reduceMul,reduceLeDiff,reduceEqDiff,reduceAdd,↓reduceIte,reduceCtorEq,SGbb]
 refine⟨h0,by omega, .inl ?_⟩
 simp only[bQ,reduceLeDiff,↓reduceIte]
 exact Nat.le_refl _
structure RevI (l m:List UInt8) (i:Nat):Prop where
 len:m.length=l.length
 half:2*i≤l.length+1
 get: ∀k,k<l.length→m.getD k 0=if k<i∨l.length≤k+i then l.getD (l.length-1-k) 0 else l.getD k 0
theorem RevI.zero (l:List UInt8):RevI l l 0:=⟨rfl,by omega,fun k hk=>by rw[if_neg (by omega)]⟩
theorem u8_getD_set {l:List UInt8} {k m:Nat} {x:UInt8}:(l.set k x).getD m 0=if k=m∧k<l.length then x else l.getD m 0:=by
 simp only[List.getD_eq_getElem?_getD,List.getElem?_set]
 by_cases h:k=m
 ·subst h
  by_cases h2:k<l.length
  ·simp[h2]
  ·simp[h2]
 ·simp[h]
theorem RevI.step {l m:List UInt8} {i:Nat} (h:RevI l m i) (hi:i+i+1<l.length):RevI l ((m.set i (m.getD (l.length-1-i) 0)).set (l.length-1-i) (m.getD i 0)) (i+1):=by
 have g1:m.getD i 0=l.getD i 0:=by rw[h.get i (by omega),if_neg (by omega)]
 have g2:m.getD (l.length-1-i) 0=l.getD (l.length-1-i) 0:=by rw[h.get _ (by omega),if_neg (by omega)]
 refine⟨by rw[List.length_set,List.length_set];exact h.len,by omega,fun k hk=> ?_⟩
 rw[u8_getD_set,u8_getD_set,List.length_set,h.len,g1,g2]
 by_cases ha:l.length-1-i=k
 ·rw[if_pos (And.intro ha (by omega)),if_pos (show k<i+1∨l.length≤k+(i+1) by omega)]
  congr 1;omega
 ·rw[if_neg (fun e=>ha e.1)]
  by_cases hb:i=k
  ·subst hb
   rw[if_pos (And.intro rfl (by omega)),if_pos (show i<i+1∨l.length≤i+(i+1) by omega)]
  ·rw[if_neg (fun e=>hb e.1),h.get k hk]
   by_cases h3:k<i∨l.length≤k+i
   ·rw[if_pos h3,if_pos (by omega)]
   ·rw[if_neg h3,if_neg (by omega)]
theorem RevI.fin {l m:List UInt8} {i:Nat} (h:RevI l m i) (hi:l.length≤i+i+1):m=l.reverse:=by
 apply List.ext_getElem?
 intro k
 by_cases hk:k<l.length
 ·have h1:=h.get k hk
  have hkm:k<m.length:=by rw[h.len];exact hk
  have e:(if k<i∨l.length≤k+i then l.getD (l.length-1-k) 0 else l.getD k 0)=l.getD (l.length-1-k) 0:=by
   split
   ·rfl
   ·congr 1;omega
  rw[e,List.getD_eq_getElem?_getD,List.getD_eq_getElem?_getD,List.getElem?_eq_getElem hkm,List.getElem?_eq_getElem (by omega),Option.getD_some,Option.getD_some] at h1
  rw[List.getElem?_eq_getElem hkm,List.getElem?_reverse hk,List.getElem?_eq_getElem (by omega),h1]
 ·rw[List.getElem?_eq_none (by rw[h.len];omega),List.getElem?_eq_none (by rw[List.length_reverse];omega)]
theorem reverse_fn (J:Inv) (k nx:Nat) (l:List UInt8) (h1:l.length≤1073741824):FnH Tryz.prog J 154 [.ro (.r k)] [(k, .row 5 (.by l))] nx (.tu []) [(k, .row 5 (.by l.reverse))] nx:=by
 refine fnJ Tryz.func154 rfl (by kernel_rfl) (SGbb_ok J nx) rfl ?_
 unfold Tryz.f154
 simp only[bQ,reduceEqDiff,↓reduceIte,SGbb]
 refine⟨by constructor<;>omega,?_⟩
 refine LoopC.intro (α:=Nat×List UInt8) (fun p=>RevI l p.2 p.1) (fun p=>⟨[(0, .ro (.r k)),(2, .i p.1),(3, .i ((l.length:Int)-1-p.1))],[(k, .row 5 (.by p.2))],nx⟩) (fun p=>l.length-p.1) (0,l) (.zero l) ?_ ?_
 ·simp only[bQ,reduceEqDiff,↓reduceIte,reduceCtorEq]
  exact⟨⟨rfl,by omega⟩,Nat.le_refl _⟩
 ·rintro⟨i,m⟩ h2
  have h2:RevI l m i:=h2
  have h3:=h2.half
  have h4:=h2.len
  simp only[bQ,reduceEqDiff,↓reduceIte,reduceCtorEq]
  refine⟨fun hb=> ?_,fun hb=> ?_⟩
  ·refine DrawC.rows [(0,some (true,[])),(1,some (true,[])),(2,some (false,[])),(3,some (false,[])),(4,some (true,[])),
 (5,some (true,[])),(6,some (true,[])),(7,some (true,[])),(8,some (true,[])),(9,some (true,[])),
 (10,some (true,[])),(11,some (true,[])),(12,some (true,[])),(13,none),(14,some (false,[])),(15,none)] [] [13,15] (by kernel_rfl) ?_
   have hb2:i+i+1<l.length:=by simp at hb;omega
   rw[show((l.length:Int)-1-i)=((l.length-1-i:Nat):Int) by omega]
   simp only[bQ,reduceEqDiff,reduceLT,↓reduceIte,reduceCtorEq,Nat.reduceBEq,u8_byteAt,List.length_set]
   have k1:=byteAt_lo m
   have k2:=byteAt_hi m
   refine⟨by omega,by omega,by omega,by omega,by omega,by omega,by omega,by omega,by omega,k1 _,k2 _,by omega,by omega,by omega,k1 _,k2 _,by constructor<;>omega,by constructor<;>omega,Again.intro (i+1,(m.set i (m.getD (l.length-1-i) 0)).set (l.length-1-i) (m.getD i 0)) (h2.step hb2) (by show l.length-(i+1)<l.length-i;omega) ?_⟩
   simp only[bQ,reduceEqDiff,↓reduceIte,reduceCtorEq]
   exact⟨⟨by omega,by omega⟩,Nat.le_refl _⟩
  ·have hb2:l.length≤i+i+1:=by simp at hb;omega
   rw[←h2.fin hb2]
   refine .inl ?_
   simp only[bQ,reduceLeDiff,↓reduceIte]
   exact Nat.le_refl _
end Go.Proofs.YtfengpdaocgcnaaGreatDoor
